/- The code of a list of tokens: both sides, walked. -/
import Derived.Test.YtjneodmohkpckaaDoorEv
import Derived.Test.YtjneodmohkpckaaDoorFl
namespace Go.Proofs.YtjneodmohkpckaaDoor
open Go.RowKit
set_option linter.unusedVariables false
set_option linter.unusedSimpArgs false
def TR.okW (x : TR) : Prop := x.ok ∧ x.t.size ≤ 1048576
abbrev FW (w : World) (a : Option Addr) (n c : Nat) (l : List TR) := Flats 2 TR.enc TR.okW w a n c l
theorem FT.toW {w : World} {a : Option Addr} {n c : Nat} {l : List TR} (h : FT w a n c l) (hv : ∀ t ∈ l, t.t.size ≤ 1048576) : FW w a n c l :=
  ⟨h.len, h.cap, h.pos, fun x hx => ⟨h.wf x hx, hv x hx⟩, h.nil⟩
theorem FW.get {w : World} {a : Option Addr} {n c : Nat} {l : List TR} (h : FW w a n c l) {i : Nat} (hi : i < n) :
    ∃ b off x, a = some ⟨b, off, none⟩ ∧ b < w.heap.size ∧ l[i]? = some x ∧ x.okW ∧ w.cell? ⟨b, off + i * 2, none⟩ = some (.int .i64 x.k) ∧ w.cell? ⟨b, off + i * 2 + 1, none⟩ = some (.string x.t) := by
  obtain ⟨b, off, x, h1, h2, h3, h4, h5⟩ := h.at hi
  exact ⟨b, off, x, h1, h2, h3, h4, h5 0 _ rfl, h5 1 _ rfl⟩
set_option maxHeartbeats 1000000 in
theorem slices_IndexFunc_Tk {g : Nat} {lb : Array Value} {p : TR → Bool} {a : Option Addr} {n c : Nat} {l : List TR} {w : World}
    (eg : ∀ args w, (callFunc g args).run Tryd.prog w = .ok (.enter g args) w) (hp : PredF Tryd.prog g lb TR.enc TR.okW p w) (hI : FW w a n c l) (hn : n ≤ 1048576) :
    Calls Tryd.prog 71 #[.slice a n c, .func (.func g) #[] lb] w fun e w' => e = .returned (.int .i64 (idxF p l)) ∧ Below w.heap.size w w' := by
  have HP := Lib.hid hp
  clear hp
  go_enter Tryd.func71, Tryd.ntmps71
  go_wp2
  go_loopg [5, 8] n (fun gg _ s8 wr => ∃ kk : Nat, kk ≤ n ∧ n - kk ≤ gg ∧ s8 = .int .i64 kk ∧ Below w.heap.size w wr ∧ Hid ((l.take kk).any p = false))
  case atStart => exact ⟨0, Nat.zero_le _, by omega, rfl, Below.refl _ _, rfl⟩
  case round =>
    obtain ⟨kk, hkk, hg, rfl, hbl, A⟩ := hrel
    have HI := Lib.hid hI
    by_cases hlt : kk < n
    · obtain ⟨b, off, x, rfl, hb, hx, hwf, hc0, hc1⟩ := FW.get (hI.keep hbl) hlt
      have Hx := Lib.hid hx
      have hcall := HP.out _ x hwf hbl
      clear hx hI hwf
      cases hq : p x with
      | true =>
        have Hq := Lib.hid hq
        rw [hq] at hcall
        clear hq
        go_wp2_with (go_at_fn g; refine hcall.mono ?_; rintro e w1 ⟨rfl, hb1⟩)
        go_ret
        exact ⟨ret_int (by rw [idxF_hit Hx.out Hq.out A.out]), below_call hbl hb1 hbl.size⟩
      | false =>
        have Hq := Lib.hid hq
        rw [hq] at hcall
        clear hq
        go_wp2_with (go_at_fn g; refine hcall.mono ?_; rintro e w1 ⟨rfl, hb1⟩)
        go_roundg (n - (kk + 1))
        case measure => omega
        case rel => exact ⟨kk + 1, by omega, by omega, by go_num, below_call hbl hb1 hbl.size, any_take_step Hx.out A.out Hq.out⟩
    · clear hI
      go_wp2
      go_ret
      have e : l.take kk = l := take_len (by have := HI.out.len; omega)
      have h1 := A.out
      rw [e] at h1
      exact ⟨ret_int (by rw [idxF_miss h1]), hbl⟩
theorem slices_ContainsFunc_Tk {g : Nat} {lb : Array Value} {p : TR → Bool} {a : Option Addr} {n c : Nat} {l : List TR} {w : World}
    (eg : ∀ args w, (callFunc g args).run Tryd.prog w = .ok (.enter g args) w) (hp : PredF Tryd.prog g lb TR.enc TR.okW p w) (hI : FW w a n c l) (hn : n ≤ 1048576) :
    Calls Tryd.prog 46 #[.slice a n c, .func (.func g) #[] lb] w fun e w' => e = .returned (.bool (l.any p)) ∧ Below w.heap.size w w' := by
  have h := idxF_nonneg p l
  have hc := slices_IndexFunc_Tk eg hp hI hn
  generalize idxF p l = r at h hc
  have H := Lib.hid h
  have HI := Lib.hid hI
  have HP := Lib.hid hp
  clear h hI hp
  go_enter Tryd.func46, Tryd.ntmps46
  go_wp2_with fail
  refine Calls.mono hc ?_
  rintro e w1 ⟨rfl, hb1⟩
  go_wp2
  go_ret
  exact ⟨ret_bool H.out, hb1⟩
/-- the code of a list of tokens -/
def tksC (l : List TR) : Int := if 800 < l.length then 3 else if (l.any fun x => !tokB x) = true then 1 else 0
theorem impl_tokensCode_1 {x : TR} {w : World} (hL : LV w) (hx : x.okW) : Calls Tryd.prog 47 #[.agg #[.int .i64 x.k, .string x.t]] w fun e w' => e = .returned (.bool (!tokB x)) ∧ Below w.heap.size w w' := by
  have K := Lib.hid (fun (wx : World) (hb : Below w.heap.size w wx) => impl_IsToken (k := x.k) (t := x.t) (hL.keep hb) hx.2)
  clear hL hx
  go_enter Tryd.func47, Tryd.ntmps47
  go_wp2_with fail
  refine Calls.mono (K.out _ bel) ?_
  rintro e w1 ⟨rfl, hb1⟩
  go_wp2
  go_ret
  exact ⟨rfl, by first | exact hb1 | exact below_callS (below_alloc1 (Below.refl _ _) _) hb1⟩
theorem impl_tokensCode {a : Option Addr} {n c : Nat} {l : List TR} {w : World} (hL : LV w) (hI : FW w a n c l) (hn : n ≤ 1048576) : Calls Tryd.prog 24 #[.slice a n c] w fun e w' => e = .returned (.int .i64 (tksC l)) ∧ Below w.heap.size w w' := by
  have hlen := hI.len
  have HT := Lib.hid (show tksC l = if 800 < l.length then 3 else if (l.any fun x => !tokB x) = true then 1 else 0 from rfl)
  by_cases h8 : 800 < n
  · have H := Lib.hid (show tksC l = 3 by rw [HT.out, if_pos (by omega)])
    have h8' : (800 : Int) < (n : Int) := by omega
    clear hL hI
    go_enter Tryd.func24, Tryd.ntmps24
    go_wp2
    go_ret
    exact ⟨by rw [H.out]; rfl, Below.refl _ _⟩
  · have h8' : ¬ (800 : Int) < (n : Int) := by omega
    have K := Lib.hid (slices_ContainsFunc_Tk (g := 47) (lb := #[]) (p := fun x => !tokB x) (w := w) (fun _ _ => by kernel_rfl) (fun W x hx hb => by
      rw [Array.append_empty]; exact impl_tokensCode_1 (hL.keep hb) hx) hI hn)
    cases hq : l.any fun x => !tokB x
    · have H := Lib.hid (show tksC l = 0 by rw [HT.out, if_neg (by omega), hq]; rfl)
      rw [hq] at K
      clear hL hI hq
      go_enter Tryd.func24, Tryd.ntmps24
      go_wp2_with fail
      refine Calls.mono K.out ?_
      rintro e w1 ⟨rfl, hb1⟩
      go_wp2
      go_ret
      exact ⟨by rw [H.out]; rfl, hb1⟩
    · have H := Lib.hid (show tksC l = 1 by rw [HT.out, if_neg (by omega), hq]; rfl)
      rw [hq] at K
      clear hL hI hq
      go_enter Tryd.func24, Tryd.ntmps24
      go_wp2_with fail
      refine Calls.mono K.out ?_
      rintro e w1 ⟨rfl, hb1⟩
      go_wp2
      go_ret
      exact ⟨by rw [H.out]; rfl, hb1⟩
set_option maxHeartbeats 1000000 in
theorem spec_l12List {a : Option Addr} {n c : Nat} {l : List TR} {w : World} (hI : FW w a n c l) (hn : n ≤ 1048576) : Calls Tryd.prog 26 #[.slice a n c] w fun e w' => e = .returned (.int .i64 (tksC l)) ∧ Below w.heap.size w w' := by
  have hlen := hI.len
  have HT := Lib.hid (show tksC l = if 800 < l.length then 3 else if (l.any fun x => !tokB x) = true then 1 else 0 from rfl)
  by_cases h8 : 800 < n
  · have H := Lib.hid (show tksC l = 3 by rw [HT.out, if_pos (by omega)])
    have h8' : (800 : Int) < (n : Int) := by omega
    clear hI
    go_enter Tryd.func26, Tryd.ntmps26
    go_wp2
    go_ret
    exact ⟨by rw [H.out]; rfl, Below.refl _ _⟩
  · have h8' : ¬ (800 : Int) < (n : Int) := by omega
    have HI := Lib.hid hI
    have HLEN := Lib.hid hlen
    clear hI hlen
    go_enter Tryd.func26, Tryd.ntmps26
    go_wp2_with fail
    go_loopw [3] (fun s3 wr => ∃ k : Nat, s3 = .int .i64 (k : Int) ∧ k ≤ n ∧ Below w.heap.size w wr ∧ Hid (((l.take k).any fun x => !tokB x) = false)) (fun s3 _ => n - (intOf s3).toNat)
    case atStart => exact ⟨0, rfl, by omega, Below.refl _ _, Lib.hid rfl⟩
    case round =>
      obtain ⟨k, rfl, hk, hbl, A⟩ := hrel
      by_cases hlt : k < n
      · obtain ⟨b, off, x, rfl, hb, hx, hwf, c0, c1⟩ := FW.get (HI.out.keep hbl) hlt
        have HX := Lib.hid hx
        have hk0 : (0 : Int) ≤ (k : Int) := by omega
        have hlt' : (k : Int) < (n : Int) := by omega
        have K := Lib.hid (fun (wx : World) => spec_IsToken (k := x.k) (t := x.t) (w := wx) hwf.2)
        have hm := Lib.hid (List.mem_of_getElem? hx)
        clear hx hwf
        cases hq : tokB x
        · have H := Lib.hid (show tksC l = 1 by
            rw [HT.out, if_neg (by rw [HLEN.out]; exact h8), if_pos (List.any_eq_true.2 ⟨x, hm.out, by rw [hq]; rfl⟩)])
          have hq2 : tokB ⟨x.k, x.t⟩ = false := hq
          rw [hq2] at K
          clear hq hq2
          go_wp2_with fail
          refine Calls.mono (K.out _) ?_
          rintro e w1 ⟨rfl, hb1⟩
          go_wp2
          go_ret
          exact ⟨by rw [H.out]; rfl, below_callS hbl hb1⟩
        · have HQ := Lib.hid (show (!tokB x) = false by rw [hq]; rfl)
          have hq2 : tokB ⟨x.k, x.t⟩ = true := hq
          rw [hq2] at K
          clear hq hq2
          go_wp2_with fail
          refine Calls.mono (K.out _) ?_
          rintro e w1 ⟨rfl, hb1⟩
          have hbl1 := below_callS hbl hb1
          clear hb1
          go_wp2_with fail
          go_roundw
          case rel => exact ⟨k + 1, by go_num, by omega, hbl1, any_take_step HX.out A.out HQ.out⟩
          case measure => simp only [intOf]; omega
      · have hlt' : ¬ (k : Int) < (n : Int) := by omega
        have H := Lib.hid (show tksC l = 0 by
          have e : l.take k = l := take_len (by have := HLEN.out; omega)
          have h1 := A.out
          rw [e] at h1
          rw [HT.out, if_neg (by rw [HLEN.out]; exact h8), h1]; rfl)
        go_wp2
        go_ret
        exact ⟨by rw [H.out]; rfl, hbl⟩
end Go.Proofs.YtjneodmohkpckaaDoor
