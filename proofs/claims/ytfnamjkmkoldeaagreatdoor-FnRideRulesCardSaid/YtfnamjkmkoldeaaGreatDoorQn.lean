/- Numbers and words in texts: plain laws.; Decimal texts of the reference, walked. -/
import Derived.Test.YtfnamjkmkoldeaaGreatDoorBase
import Derived.Lib.ItoaNum
import Derived.Lib.ParseIntB
import Derived.Test.YtfnamjkmkoldeaaGreatDoorQa
import Derived.Laws.BytesArg
import Derived.Deep.DrawnRows
import Derived.Laws.Strings
namespace Go.Proofs.YtfnamjkmkoldeaaGreatDoor
open Go.RowKit
set_option linter.unusedVariables false
set_option linter.unusedSimpArgs false
def letP (c : UInt8) : Bool := decide (97 ≤ c.toNat) && decide (c.toNat ≤ 122)
def digP (c : UInt8) : Bool := decide (48 ≤ c.toNat) && decide (c.toNat ≤ 57)
def innP (c : UInt8) : Bool := letP c || digP c || decide (c.toNat = 95)
def valA (acc : Nat) (l : List UInt8) : Nat := l.foldl (fun a c => a * 10 + (c.toNat - 48)) acc
theorem valA_cons (acc : Nat) (c : UInt8) (l : List UInt8) : valA acc (c :: l) = valA (acc * 10 + (c.toNat - 48)) l := by simp only [valA, List.foldl_cons]
theorem valA_snoc (acc : Nat) (l : List UInt8) (c : UInt8) : valA acc (l ++ [c]) = valA acc l * 10 + (c.toNat - 48) := by simp [valA]
theorem valA_ge (l : List UInt8) : ∀ acc, acc ≤ valA acc l := by
  induction l with
  | nil => intro acc; exact Nat.le_refl _
  | cons c l ih => intro acc; rw [valA_cons]; have := ih (acc * 10 + (c.toNat - 48)); omega
theorem dig_byte {k : Nat} (h : k < 10) : (UInt8.ofNat (48 + k)).toNat = 48 + k := by
  simp; omega
theorem dec_dig (u : Nat) : (Lib.decDigits u).all digP = true := by
  induction u using Nat.strongRecOn with
  | _ u ih =>
    rw [Lib.decDigits]
    split
    · rename_i h
      simp only [List.all_cons, List.all_nil, Bool.and_true, digP, dig_byte h]
      simp; omega
    · rename_i h
      rw [List.all_append, ih (u / 10) (by omega)]
      simp only [List.all_cons, List.all_nil, Bool.and_true, Bool.true_and, digP, dig_byte (show u % 10 < 10 by omega)]
      simp; omega
theorem dec_val (u : Nat) : valA 0 (Lib.decDigits u) = u := by
  induction u using Nat.strongRecOn with
  | _ u ih =>
    rw [Lib.decDigits]
    split
    · rename_i h
      simp only [valA, List.foldl_cons, List.foldl_nil, dig_byte h]
      omega
    · rename_i h
      rw [valA_snoc, ih (u / 10) (by omega), dig_byte (show u % 10 < 10 by omega)]
      omega
theorem dec_ne (u : Nat) : Lib.decDigits u ≠ [] := by
  intro h
  have := Lib.decDigits_length u
  rw [h] at this
  have := Lib.nDigits_pos u
  simp at *
  omega
theorem nDig_low (u : Nat) (h : 1 ≤ u) : 10 ^ (Lib.nDigits u - 1) ≤ u := by
  induction u using Nat.strongRecOn with
  | _ u ih =>
    by_cases hu : u < 10
    · rw [Lib.nDigits_small hu]; simpa using h
    · rw [Lib.nDigits_big hu]
      have h1 := ih (u / 10) (by omega) (by omega)
      have h2 := Lib.nDigits_pos (u / 10)
      have e : Lib.nDigits (u / 10) + 1 - 1 = (Lib.nDigits (u / 10) - 1) + 1 := by omega
      rw [e, Nat.pow_succ]; omega
theorem nDig_le {u k : Nat} (h : u < 10 ^ k) (hk : 1 ≤ k) : Lib.nDigits u ≤ k := by
  by_cases h0 : u = 0
  · subst h0; rw [Lib.nDigits_small (by omega)]; exact hk
  · have h1 := nDig_low u (by omega)
    rcases Nat.lt_or_ge k (Lib.nDigits u) with hlt | hge
    · have h2 : 10 ^ k ≤ 10 ^ (Lib.nDigits u - 1) := Nat.pow_le_pow_right (by decide) (by omega)
      omega
    · exact hge
theorem nDig_mono4 {u : Nat} (h : u ≤ 9999) : Lib.nDigits u ≤ 4 := by
  rcases (show u < 10 ∨ (10 ≤ u ∧ u < 100) ∨ (100 ≤ u ∧ u < 1000) ∨ (1000 ≤ u ∧ u < 10000) by omega) with h | h | h | h
  · rw [Lib.nDigits_small h]; omega
  · rw [Lib.nDigits_unique 1 u (by omega) (by omega)]; omega
  · rw [Lib.nDigits_unique 2 u (by omega) (by omega)]; omega
  · rw [Lib.nDigits_unique 3 u (by omega) (by omega)]; omega
/-- a number from 0 to 9999 as it is written -/
def numB (l : List UInt8) : Bool := decide (Lib.decDigits (valA 0 l) = l) && decide (valA 0 l ≤ 9999)
theorem numB_len {l : List UInt8} (h : numB l = true) : 1 ≤ l.length ∧ l.length ≤ 4 ∧ l.all digP = true := by
  rw [numB, Bool.and_eq_true] at h
  have h1 := of_decide_eq_true h.1
  have h2 := of_decide_eq_true h.2
  have h3 := Lib.decDigits_length (valA 0 l)
  rw [h1] at h3
  have h4 := nDig_mono4 h2
  have h5 := Lib.nDigits_pos (valA 0 l)
  have h6 := dec_dig (valA 0 l)
  rw [h1] at h6
  exact ⟨by omega, by omega, h6⟩
theorem parseM_dig {M : Nat} (hM : M ≤ 18446744073709551615) : ∀ (l : List UInt8) (acc : Nat), l.all digP = true → valA acc l ≤ M → Lib.parseUintM M acc l = .ok (valA acc l)
  | [], acc, _, _ => rfl
  | c :: r, acc, hd, hv => by
    rw [List.all_cons, Bool.and_eq_true] at hd
    have hc := hd.1
    simp [digP] at hc
    rw [valA_cons] at hv
    have h1 := valA_ge r (acc * 10 + (c.toNat - 48))
    rw [Lib.parseUintM, if_pos hc, if_neg (by omega), if_neg (by omega), valA_cons]
    exact parseM_dig hM r _ hd.2 hv
theorem parse_num {l : List UInt8} (h : numB l = true) : Lib.parseIntB 64 l = .ok (valA 0 l : Int) := by
  obtain ⟨h1, h2, h3⟩ := numB_len h
  rw [numB, Bool.and_eq_true] at h
  have h4 := of_decide_eq_true h.2
  match l, h1 with
  | c :: r, _ =>
    have hc : digP c = true := by rw [List.all_cons, Bool.and_eq_true] at h3; exact h3.1
    simp [digP] at hc
    have hm := parseM_dig (M := 2 ^ 64 - 1) (by decide) (c :: r) 0 h3 (by omega)
    rw [Lib.parseIntB]
    rw [if_neg (by omega), Lib.parseUintB, if_neg (by simp), hm]
    simp only
    rw [if_neg (by omega), if_neg (by omega), if_neg (by omega)]
/-- how isCount's test comes out -/
theorem num_iff {l : List UInt8} {v : Int} (h : Lib.parseIntB 64 l = .ok v) : numB l = (decide (Lib.itoa v = l) && (decide (0 ≤ v) && decide (v ≤ 9999))) := by
  rw [Bool.eq_iff_iff]
  constructor
  · intro hn
    have hp := parse_num hn
    rw [h] at hp
    injection hp with hv
    rw [numB, Bool.and_eq_true] at hn
    have h1 := of_decide_eq_true hn.1
    have h2 := of_decide_eq_true hn.2
    subst hv
    simp [Lib.itoa, h1]; omega
  · intro hn
    simp only [Bool.and_eq_true, decide_eq_true_eq] at hn
    obtain ⟨h1, h2, h3⟩ := hn
    rw [Lib.itoa, if_neg (by omega)] at h1
    rw [numB, ← h1, dec_val]
    simp; omega
theorem num_err {l : List UInt8} (h : ∀ v, Lib.parseIntB 64 l ≠ .ok v) : numB l = false := by
  cases hn : numB l with
  | false => rfl
  | true => exact absurd (parse_num hn) (h _)
/-- a word -/
def wrdB (l : List UInt8) : Bool := decide (1 ≤ l.length) && decide (l.length ≤ 12) && (l.head?.any letP && l.all innP)
def sgnP (c : UInt8) : Bool := decide (c.toNat = 61) || decide (c.toNat = 40) || decide (c.toNat = 41) || decide (c.toNat = 44) || decide (c.toNat = 59)
/-- the bytes from a place on that are of a kind -/
def runL (p : UInt8 → Bool) (l : List UInt8) : Nat := (l.takeWhile p).length
theorem runL_le (p : UInt8 → Bool) (l : List UInt8) : runL p l ≤ l.length := (List.takeWhile_prefix p).length_le
theorem runL_take (p : UInt8 → Bool) (l : List UInt8) : (l.take (runL p l)).all p = true := by
  induction l with
  | nil => simp
  | cons x r ih =>
    by_cases hx : p x = true
    · have e : runL p (x :: r) = runL p r + 1 := by rw [runL, List.takeWhile_cons, if_pos hx]; rfl
      rw [e, List.take_succ_cons, List.all_cons, hx, ih]; rfl
    · have e : runL p (x :: r) = 0 := by rw [runL, List.takeWhile_cons, if_neg hx]; rfl
      rw [e]; simp
theorem runL_stop {p : UInt8 → Bool} {l : List UInt8} {c : UInt8} (h : l[runL p l]? = some c) : p c = false := by
  induction l with
  | nil => simp at h
  | cons x r ih =>
    by_cases hx : p x = true
    · have e : runL p (x :: r) = runL p r + 1 := by rw [runL, List.takeWhile_cons, if_pos hx]; rfl
      rw [e] at h
      exact ih (by simpa using h)
    · have e : runL p (x :: r) = 0 := by rw [runL, List.takeWhile_cons, if_neg hx]; rfl
      rw [e] at h
      simp at h
      subst h
      simpa using hx
theorem runL_eq {p : UInt8 → Bool} {l : List UInt8} {k : Nat} (hk : k ≤ l.length) (h : (l.take k).all p = true) (hs : ∀ c, l[k]? = some c → p c = false) : runL p l = k := by
  induction l generalizing k with
  | nil => simp at hk; subst hk; rfl
  | cons x r ih =>
    cases k with
    | zero =>
      have := hs x rfl
      simp [runL, this]
    | succ k =>
      simp at h hk
      have h2 := ih hk (by simpa using h.2) (fun c hc => hs c (by simpa using hc))
      simp [runL, h.1] at h2 ⊢
      exact h2
theorem runL_congr {p q : UInt8 → Bool} (h : ∀ c, p c = q c) (l : List UInt8) : runL p l = runL q l := by rw [show p = q from funext h]
theorem runL_pos {p : UInt8 → Bool} {l : List UInt8} {c : UInt8} (h : l[0]? = some c) (hp : p c = true) : 0 < runL p l := by
  cases l with
  | nil => simp at h
  | cons x r => simp at h; subst h; rw [runL, List.takeWhile_cons, if_pos hp]; simp
end Go.Proofs.YtfnamjkmkoldeaaGreatDoor
namespace Go.Proofs.YtfnamjkmkoldeaaGreatDoor
open Go.RowKit
set_option linter.unusedVariables false
set_option linter.unusedSimpArgs false
def decS (n : Nat) : ByteArray := ⟨(Lib.decDigits n).toArray⟩
theorem digS_1 {n : Nat} (h : n < 10) : strOfNums [48 + (n : Int)] = decS n := by
  rw [decS, Lib.decDigits_one h]
  have e : (48 + (n : Int)).toNat = 48 + n := by omega
  rw [strOfNums, List.map_cons, List.map_nil, e]
theorem decS_step {n : Nat} (h : ¬ n < 10) : decS (n / 10) ++ strOfNums [48 + ((n % 10 : Nat) : Int)] = decS n := by
  have e : (48 + ((n % 10 : Nat) : Int)).toNat = 48 + n % 10 := by omega
  rw [decS, decS, Lib.decDigits.eq_def n, dif_neg h, strOfNums, List.map_cons, List.map_nil, e]
  apply ByteArray.ext
  simp
theorem decS_size {n : Nat} (h : n ≤ 999999999999) : (decS n).size ≤ 12 := by
  have h1 : (decS n).size = Lib.nDigits n := by rw [← Lib.decDigits_length]; simp [decS, ByteArray.size]
  rw [h1]
  exact nDig_le (by omega) (by decide)
set_option maxHeartbeats 2000000 in
theorem spec_l01Dec {n : Nat} {w : World} (hn : n ≤ 999999999999) : Calls Tryz.prog 89 #[.int .i64 (n : Int)] w fun e w' => e = .returned (.string (decS n)) ∧ Below w.heap.size w w' := by
  induction n using Nat.strongRecOn generalizing w with
  | _ n ih =>
    by_cases h : n < 10
    · have hcv := run_convert_bytes_arg (P := Tryz.prog) (w.alloc (.cells #[.int .u8 (48 + (n : Int))] 5)) 34 5 Tryz.underlying34 Tryz.underlying5 w.heap.size 0 1 1 [48 + (n : Int)] rfl (by intro i hi; (obtain rfl : i = 0 := (by omega)); exact (Blk.made w #[.int .u8 (48 + (n : Int))] 5).cell 0) 9 Tryz.underlying9
      rw [digS_1 h] at hcv
      have hw : IntKind.u8.wrap (48 + (n : Int)) = 48 + (n : Int) := by
        have : n = 0 ∨ n = 1 ∨ n = 2 ∨ n = 3 ∨ n = 4 ∨ n = 5 ∨ n = 6 ∨ n = 7 ∨ n = 8 ∨ n = 9 := by omega
        rcases this with rfl | rfl | rfl | rfl | rfl | rfl | rfl | rfl | rfl | rfl <;> rfl
      have hn' : (n : Int) < 10 := by omega
      clear ih
      go_enter Tryz.func89, Tryz.ntmps89
      go_wp2
      go_ret
      exact ⟨rfl, by repeat (first | exact Below.refl _ _ | assumption | refine below_allocS ?_ _ | refine below_callS ?_ (by assumption) | (refine Below.alloc ?_ (by first | omega | (simp; done) | (simp; omega)) _) | (refine Below.setCell ?_ (by first | omega | (simp; done) | (simp; omega)) _) | refine Below.drew ?_ | refine below_drewN ?_ _ | (refine below_call ?_ (by assumption) (by first | omega | (simp; done) | (simp; omega))) | (refine Below.trans ?_ (by assumption)))⟩
    · have hd9 : n % 10 = 0 ∨ n % 10 = 1 ∨ n % 10 = 2 ∨ n % 10 = 3 ∨ n % 10 = 4 ∨ n % 10 = 5 ∨ n % 10 = 6 ∨ n % 10 = 7 ∨ n % 10 = 8 ∨ n % 10 = 9 := by omega
      have hst := decS_step h
      have hih := fun (wx : World) => ih (n / 10) (by omega) (w := wx) (by omega)
      have hsz := decS_size (n := n / 10) (by omega)
      have hn' : ¬ (n : Int) < 10 := by omega
      have hn2 : 10 ≤ (n : Int) := by omega
      have eq1 : IntKind.i64.wrap ((n : Int) / 10) = ((n / 10 : Nat) : Int) := (IntWalk.i64_in _ (by omega)).trans (by omega)
      have etm : (n : Int).tmod 10 = ((n % 10 : Nat) : Int) := by rw [Int.tmod_eq_emod_of_nonneg (by omega)]; omega
      clear ih h
      generalize n / 10 = m at *
      generalize n % 10 = d at *
      have hw : IntKind.u8.wrap (48 + (d : Int)) = 48 + (d : Int) := by
        rcases hd9 with e | e | e | e | e | e | e | e | e | e <;> rw [e] <;> rfl
      have eq2 : IntKind.u8.wrap (IntKind.i64.wrap (48 + (n : Int).tmod 10)) = 48 + (d : Int) := by rw [etm, IntWalk.i64_in _ (by omega), hw]
      have hcv := fun (wx : World) (g : Nat) (hB : Blk wx g #[.int .u8 (48 + (d : Int))] 5) => run_convert_bytes_arg (P := Tryz.prog) wx 34 5 Tryz.underlying34 Tryz.underlying5 g 0 1 1 [48 + (d : Int)] rfl (by intro i hi; (obtain rfl : i = 0 := (by omega)); exact hB.cell 0) 9 Tryz.underlying9
      have hT1 : (strOfNums [48 + (d : Int)]).size = 1 := rfl
      generalize strOfNums [48 + (d : Int)] = T at *
      have IH := Lib.hid hih
      have HS := Lib.hid hst
      have HCV := Lib.hid hcv
      have EQ1 := Lib.hid eq1
      have EQ2 := Lib.hid eq2
      have g1 : ¬ 9223372036854775807 < (decS m).size + 1 := by omega
      clear hcv hd9 eq1 etm eq2 hih hst hw
      go_enter Tryz.func89, Tryz.ntmps89
      go_wp2_with fail
      refine wp_region_noPanic ?_
      refine wp_region_held_drew (S := fun wx => Below w.heap.size w wx) (by kernel_rfl) (Below.drew (Below.refl _ _)) (fun hHeld => ?_)
      refine wpAnyH_take (i := 0) (v := ?_) (by simp only [List.getElem?_toArray, List.getElem?_cons_succ, List.getElem?_cons_zero] <;> rfl) (by kernel_rfl) (by kernel_rfl) (by kernel_rfl) (fun _ _ _ h => h) (Or.inl ⟨by rfl, ?_⟩) (by assumption) ?_
      rotate_left
      · (intro wq hSw; (try dsimp only at hSw); go_simp; try with_reducible rfl)
      try simp only [Act.put, List.setIfInBounds_toArray, List.set_cons_zero, List.set_cons_succ]
      refine wpAnyH_take (i := 1) (v := ?_) (by simp only [List.getElem?_toArray, List.getElem?_cons_succ, List.getElem?_cons_zero] <;> rfl) (by kernel_rfl) (by kernel_rfl) (by kernel_rfl) (fun _ _ _ h => h) (Or.inl ⟨by rfl, ?_⟩) (by assumption) ?_
      rotate_left
      · (intro wq hSw; (try dsimp only at hSw); go_simp; try with_reducible rfl)
      try simp only [Act.put, List.setIfInBounds_toArray, List.set_cons_zero, List.set_cons_succ]
      refine wpAnyH_take (i := 3) (v := ?_) (by simp only [List.getElem?_toArray, List.getElem?_cons_succ, List.getElem?_cons_zero] <;> rfl) (by kernel_rfl) (by kernel_rfl) (by kernel_rfl) (fun _ _ _ h => h) (Or.inl ⟨by rfl, ?_⟩) (by assumption) ?_
      rotate_left
      · (intro wq hSw; (try dsimp only at hSw); go_simp; try with_reducible rfl)
      try simp only [Act.put, List.setIfInBounds_toArray, List.set_cons_zero, List.set_cons_succ]
      refine wpAnyH_take (i := 4) (v := ?_) (by simp only [List.getElem?_toArray, List.getElem?_cons_succ, List.getElem?_cons_zero] <;> rfl) (by kernel_rfl) (by kernel_rfl) (by kernel_rfl) (fun _ _ _ h => h) (Or.inl ⟨by rfl, ?_⟩) (by assumption) ?_
      rotate_left
      · (intro wq hSw; (try dsimp only at hSw); go_simp; try with_reducible rfl)
      try simp only [Act.put, List.setIfInBounds_toArray, List.set_cons_zero, List.set_cons_succ]
      refine wpAnyH_take (i := 5) (v := ?_) (by simp only [List.getElem?_toArray, List.getElem?_cons_succ, List.getElem?_cons_zero] <;> rfl) (by kernel_rfl) (by kernel_rfl) (by kernel_rfl) (fun _ _ _ h => h) (Or.inl ⟨by rfl, ?_⟩) (by assumption) ?_
      rotate_left
      · (intro wq hSw; (try dsimp only at hSw); go_simp; try with_reducible rfl)
      try simp only [Act.put, List.setIfInBounds_toArray, List.set_cons_zero, List.set_cons_succ]
      refine wpAnyH_take (i := 6) (v := ?_) (by simp only [List.getElem?_toArray, List.getElem?_cons_succ, List.getElem?_cons_zero] <;> rfl) (by kernel_rfl) (by kernel_rfl) (by kernel_rfl) (fun _ _ _ h => h) (Or.inl ⟨by rfl, ?_⟩) (by assumption) ?_
      rotate_left
      · (intro wq hSw; (try dsimp only at hSw); go_simp; try with_reducible rfl)
      try simp only [Act.put, List.setIfInBounds_toArray, List.set_cons_zero, List.set_cons_succ]
      simp only [EQ1.out, EQ2.out]
      refine wpAnyH_ready (rs := [2, 7]) (by kernel_rfl) (by simp) ?_
      refine AllReadyH.cons rfl (fun K hK => ?_) (AllReadyH.cons rfl (fun K hK => ?_) AllReadyH.nil)
      · go_simp
        refine Calls.mono (IH.out _) ?_
        rintro e w1 ⟨rfl, hb1⟩
        have hb2 : Below w.heap.size w w1 := below_call hHeld hb1 (Nat.le_refl _)
        go_wp2_with fail
        refine hK.out _ _ hb2 (fun hHeld => ?_)
        clear hK K
        try simp only [Act.put, List.setIfInBounds_toArray, List.set_cons_zero, List.set_cons_succ]
        refine wpAnyH_ready (rs := [7]) (by kernel_rfl) (by simp) ?_
        refine AllReadyH.cons rfl (fun K hK => ?_) AllReadyH.nil
        go_simp
        refine hK.out _ _ (hb2.alloc hb2.size _) (fun hHeld => ?_)
        clear hK K
        try simp only [Act.put, List.setIfInBounds_toArray, List.set_cons_zero, List.set_cons_succ]
        have hcv := HCV.out _ _ (Blk.made w1 #[.int .u8 (48 + (d : Int))] 5)
        refine wpAnyH_ready (rs := [8]) (by kernel_rfl) (by simp) ?_
        refine AllReadyH.cons rfl (fun K hK => ?_) AllReadyH.nil
        go_simp
        refine hK.out _ _ hHeld (fun hHeld => ?_)
        clear hK K
        try simp only [Act.put, List.setIfInBounds_toArray, List.set_cons_zero, List.set_cons_succ]
        refine wpAnyH_take (i := 9) (v := ?_) (by simp only [List.getElem?_toArray, List.getElem?_cons_succ, List.getElem?_cons_zero] <;> rfl) (by kernel_rfl) (by kernel_rfl) (by kernel_rfl) (fun _ _ _ h => h) (Or.inl ⟨by rfl, ?_⟩) (by assumption) ?_
        rotate_left
        · (intro wq hSw; (try dsimp only at hSw); go_simp; try with_reducible rfl)
        try simp only [Act.put, List.setIfInBounds_toArray, List.set_cons_zero, List.set_cons_succ]
        refine wpAnyH_take (i := 10) (v := ?_) (by simp only [List.getElem?_toArray, List.getElem?_cons_succ, List.getElem?_cons_zero] <;> rfl) (by kernel_rfl) (by kernel_rfl) (by kernel_rfl) (fun _ _ _ h => h) (Or.inl ⟨by rfl, ?_⟩) (by assumption) ?_
        rotate_left
        · (intro wq hSw; (try dsimp only at hSw); go_simp; try with_reducible rfl)
        try simp only [Act.put, List.setIfInBounds_toArray, List.set_cons_zero, List.set_cons_succ]
        refine wpAnyH_done (by kernel_rfl) ?_ _
        refine NoPanic.normal ?_
        go_wp2
        go_ret
        exact ⟨by rw [← HS.out]; rfl, hHeld⟩
      · go_simp
        refine hK.out _ _ (hHeld.alloc (Nat.le_refl _) _) (fun hHeld => ?_)
        clear hK K
        try simp only [Act.put, List.setIfInBounds_toArray, List.set_cons_zero, List.set_cons_succ]
        have hcv0 := HCV.out _ _ ((Blk.made w #[.int .u8 (48 + (d : Int))] 5).drew)
        refine wpAnyH_ready (rs := [2, 8]) (by kernel_rfl) (by simp) ?_
        refine AllReadyH.cons rfl (fun K hK => ?_) (AllReadyH.cons rfl (fun K hK => ?_) AllReadyH.nil)
        · clear hcv0
          go_simp
          refine Calls.mono (IH.out _) ?_
          rintro e w1 ⟨rfl, hb1⟩
          have hb2 : Below w.heap.size w w1 := below_call hHeld hb1 (by simp)
          have hB : Blk w1 w.heap.size #[.int .u8 (48 + (d : Int))] 5 := ((Blk.made w #[.int .u8 (48 + (d : Int))] 5).drew).keep hb1
          go_wp2_with fail
          refine hK.out _ _ hb2 (fun hHeld => ?_)
          clear hK K
          try simp only [Act.put, List.setIfInBounds_toArray, List.set_cons_zero, List.set_cons_succ]
          have hcv := HCV.out _ _ hB
          refine wpAnyH_ready (rs := [8]) (by kernel_rfl) (by simp) ?_
          refine AllReadyH.cons rfl (fun K hK => ?_) AllReadyH.nil
          go_simp
          refine hK.out _ _ hHeld (fun hHeld => ?_)
          clear hK K
          try simp only [Act.put, List.setIfInBounds_toArray, List.set_cons_zero, List.set_cons_succ]
          refine wpAnyH_take (i := 9) (v := ?_) (by simp only [List.getElem?_toArray, List.getElem?_cons_succ, List.getElem?_cons_zero] <;> rfl) (by kernel_rfl) (by kernel_rfl) (by kernel_rfl) (fun _ _ _ h => h) (Or.inl ⟨by rfl, ?_⟩) (by assumption) ?_
          rotate_left
          · (intro wq hSw; (try dsimp only at hSw); go_simp; try with_reducible rfl)
          try simp only [Act.put, List.setIfInBounds_toArray, List.set_cons_zero, List.set_cons_succ]
          refine wpAnyH_take (i := 10) (v := ?_) (by simp only [List.getElem?_toArray, List.getElem?_cons_succ, List.getElem?_cons_zero] <;> rfl) (by kernel_rfl) (by kernel_rfl) (by kernel_rfl) (fun _ _ _ h => h) (Or.inl ⟨by rfl, ?_⟩) (by assumption) ?_
          rotate_left
          · (intro wq hSw; (try dsimp only at hSw); go_simp; try with_reducible rfl)
          try simp only [Act.put, List.setIfInBounds_toArray, List.set_cons_zero, List.set_cons_succ]
          refine wpAnyH_done (by kernel_rfl) ?_ _
          refine NoPanic.normal ?_
          go_wp2
          go_ret
          exact ⟨by rw [← HS.out]; rfl, hHeld⟩
        · go_simp
          refine hK.out _ _ hHeld (fun hHeld => ?_)
          clear hK K hcv0
          try simp only [Act.put, List.setIfInBounds_toArray, List.set_cons_zero, List.set_cons_succ]
          refine wpAnyH_ready (rs := [2]) (by kernel_rfl) (by simp) ?_
          refine AllReadyH.cons rfl (fun K hK => ?_) AllReadyH.nil
          go_simp
          refine Calls.mono (IH.out _) ?_
          rintro e w1 ⟨rfl, hb1⟩
          have hb2 : Below w.heap.size w w1 := below_call hHeld hb1 (by simp)
          go_wp2_with fail
          refine hK.out _ _ hb2 (fun hHeld => ?_)
          clear hK K
          try simp only [Act.put, List.setIfInBounds_toArray, List.set_cons_zero, List.set_cons_succ]
          refine wpAnyH_take (i := 9) (v := ?_) (by simp only [List.getElem?_toArray, List.getElem?_cons_succ, List.getElem?_cons_zero] <;> rfl) (by kernel_rfl) (by kernel_rfl) (by kernel_rfl) (fun _ _ _ h => h) (Or.inl ⟨by rfl, ?_⟩) (by assumption) ?_
          rotate_left
          · (intro wq hSw; (try dsimp only at hSw); go_simp; try with_reducible rfl)
          try simp only [Act.put, List.setIfInBounds_toArray, List.set_cons_zero, List.set_cons_succ]
          refine wpAnyH_take (i := 10) (v := ?_) (by simp only [List.getElem?_toArray, List.getElem?_cons_succ, List.getElem?_cons_zero] <;> rfl) (by kernel_rfl) (by kernel_rfl) (by kernel_rfl) (fun _ _ _ h => h) (Or.inl ⟨by rfl, ?_⟩) (by assumption) ?_
          rotate_left
          · (intro wq hSw; (try dsimp only at hSw); go_simp; try with_reducible rfl)
          try simp only [Act.put, List.setIfInBounds_toArray, List.set_cons_zero, List.set_cons_succ]
          refine wpAnyH_done (by kernel_rfl) ?_ _
          refine NoPanic.normal ?_
          go_wp2
          go_ret
          exact ⟨by rw [← HS.out]; rfl, hHeld⟩
def v01B (l : List UInt8) : Bool := decide (1 ≤ l.length) && decide (l.length ≤ 12) && (l.all digP && decide (Lib.decDigits (valA 0 l) = l))
theorem valA_lt (l : List UInt8) : ∀ acc, l.all digP = true → valA acc l < (acc + 1) * 10 ^ l.length := by
  induction l with
  | nil => intro acc _; simp [valA]
  | cons c r ih =>
    intro acc h
    rw [List.all_cons, Bool.and_eq_true] at h
    have hc := h.1
    simp [digP] at hc
    have h1 := ih (acc * 10 + (c.toNat - 48)) h.2
    rw [valA_cons, List.length_cons, Nat.pow_succ]
    have h2 : (acc * 10 + (c.toNat - 48) + 1) * 10 ^ r.length ≤ ((acc + 1) * 10) * 10 ^ r.length := Nat.mul_le_mul_right _ (by omega)
    have h3 : (acc + 1) * 10 * 10 ^ r.length = (acc + 1) * (10 ^ r.length * 10) := by rw [Nat.mul_assoc, Nat.mul_comm 10]
    omega
theorem all_pre {p : UInt8 → Bool} {l : List UInt8} {k : Nat} (h : l.all p = true) : (l.take k).all p = true := by
  rw [List.all_eq_true] at *
  exact fun x hx => h x (List.mem_of_mem_take hx)
theorem str_eq {a b : ByteArray} : (a.toList == b.toList) = decide (a.data.toList = b.data.toList) := by
  rw [ByteArray.toList_eq, ByteArray.toList_eq]
  by_cases h : a.data.toList = b.data.toList
  · rw [h]; simp
  · rw [decide_eq_false h]; exact beq_eq_false_iff_ne.2 h
theorem num_v01 (l : List UInt8) : numB l = (v01B l && decide (valA 0 l ≤ 9999)) := by
  rw [Bool.eq_iff_iff]
  constructor
  · intro h
    obtain ⟨h1, h2, h3⟩ := numB_len h
    rw [numB, Bool.and_eq_true] at h
    rw [v01B, decide_eq_true h1, decide_eq_true (show l.length ≤ 12 by omega), h3]
    simpa using h
  · intro h
    rw [v01B] at h
    simp only [Bool.and_eq_true] at h
    rw [numB, Bool.and_eq_true]
    exact ⟨h.1.2.2, h.2⟩
end Go.Proofs.YtfnamjkmkoldeaaGreatDoor
