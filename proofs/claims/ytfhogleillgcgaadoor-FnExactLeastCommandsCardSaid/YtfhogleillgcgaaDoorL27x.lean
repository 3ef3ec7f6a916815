/- The fewest commands from a mode to another: both functions walked. -/
import Derived.Test.YtfhogleillgcgaaDoorL27w
import Derived.Test.YtfhogleillgcgaaDoorX27b
import Derived.Test.YtfhogleillgcgaaDoorQu
import Derived.Test.YtfhogleillgcgaaDoorWs
namespace Go.Proofs.YtfhogleillgcgaaDoor
open Go.RowKit
set_option linter.unusedVariables false
set_option linter.unusedSimpArgs false
def lcV (f t r : Int) : Bool := inB f 0 5 && inB t 0 5 && inB r 0 3
def lcC (f t r : Int) (key : Bool) : Int := if lcV f t r = false then 2 else if (leastF r key t f).isSome = true then 0 else 4
def lcL (f t r : Int) (key : Bool) : List Int := if lcV f t r = false then [] else (leastF r key t f).getD []
def LcRet (w : World) (L : List Int) (C : Int) (e : Ending) (w' : World) : Prop := ∃ n a c, e = .returned (.tuple #[.slice a n c, .int .i64 C]) ∧ Below w.heap.size w w' ∧ OwnI 2 w' w.heap.size a n c L
theorem lc_bad {f t r : Int} {key : Bool} (h : lcV f t r = false) : lcC f t r key = 2 ∧ lcL f t r key = [] := by rw [lcC, lcL, if_pos h, if_pos h]; exact ⟨rfl, rfl⟩
theorem lc_hit {f t r : Int} {key : Bool} {x : List Int} (h : lcV f t r = true) (hx : leastF r key t f = some x) : lcC f t r key = 0 ∧ lcL f t r key = x := by constructor <;> simp [lcC, lcL, h, hx]
theorem lc_miss {f t r : Int} {key : Bool} (h : lcV f t r = true) (hx : leastF r key t f = none) : lcC f t r key = 4 ∧ lcL f t r key = [] := by constructor <;> simp [lcC, lcL, h, hx]
set_option maxHeartbeats 2000000 in
theorem spec_LeastCommands {f t r : Int} {key : Bool} {w : World} :
    Calls Tryd.prog 10 #[.int .i64 f, .int .i64 t, .int .i64 r, .bool key] w (LcRet w (lcL f t r key) (lcC f t r key)) := by
  have hb := lc_bad (f := f) (t := t) (r := r) (key := key)
  have hh := fun (x : List Int) => lc_hit (f := f) (t := t) (r := r) (key := key) (x := x)
  have hm := lc_miss (f := f) (t := t) (r := r) (key := key)
  have hv : lcV f t r = (inB f 0 5 && inB t 0 5 && inB r 0 3) := rfl
  have ih := fun (n : Nat) (wx : World) (hn : n < 6) (hf : inB f 0 5 = true) => spec_l27Search (r := r) (tt := t) (key := key) (n := n) (m := f) (w := wx) hn hf
  generalize lcC f t r key = C at *
  generalize lcL f t r key = L at *
  generalize lcV f t r = V at *
  have HB := Lib.hid hb
  have HH := Lib.hid hh
  have HM := Lib.hid hm
  have IH := Lib.hid ih
  clear hb hh hm ih
  cases h1 : inB f 0 5
  · rw [h1] at hv
    obtain ⟨rfl, rfl⟩ := HB.out (by simp [hv])
    have H1 := Lib.hid h1
    clear h1 hv
    go_enter Tryd.func10, Tryd.ntmps10
    go_wp2_with fail
    refine Calls.mono (spec_l27Mode) ?_
    rintro e _ ⟨rfl, rfl⟩
    rw [H1.out]
    go_wp2
    exact bodyPost_ret (v := .tuple #[.slice none 0 0, .int .i64 2]) (by simp [results, Tryd.results10, go_sem]) rfl ⟨_, _, _, rfl, Below.refl _ _, OwnI.nil _ _ _⟩
  · cases h2 : inB t 0 5
    · rw [h1, h2] at hv
      obtain ⟨rfl, rfl⟩ := HB.out (by simp [hv])
      have H1 := Lib.hid h1
      have H2 := Lib.hid h2
      clear h1 h2 hv
      go_enter Tryd.func10, Tryd.ntmps10
      go_wp2_with fail
      refine Calls.mono (spec_l27Mode) ?_
      rintro e _ ⟨rfl, rfl⟩
      rw [H1.out]
      go_wp2_with fail
      refine Calls.mono (spec_l27Mode) ?_
      rintro e _ ⟨rfl, rfl⟩
      rw [H2.out]
      go_wp2
      exact bodyPost_ret (v := .tuple #[.slice none 0 0, .int .i64 2]) (by simp [results, Tryd.results10, go_sem]) rfl ⟨_, _, _, rfl, Below.refl _ _, OwnI.nil _ _ _⟩
    · cases h3 : inB r 0 3
      · rw [h1, h2, h3] at hv
        obtain ⟨rfl, rfl⟩ := HB.out (by simp [hv])
        have H1 := Lib.hid h1
        have H2 := Lib.hid h2
        have H3 := Lib.hid h3
        clear h1 h2 h3 hv
        go_enter Tryd.func10, Tryd.ntmps10
        go_wp2_with fail
        refine Calls.mono (spec_l27Mode) ?_
        rintro e _ ⟨rfl, rfl⟩
        rw [H1.out]
        go_wp2_with fail
        refine Calls.mono (spec_l27Mode) ?_
        rintro e _ ⟨rfl, rfl⟩
        rw [H2.out]
        go_wp2_with fail
        refine Calls.mono (spec_l27Role) ?_
        rintro e _ ⟨rfl, rfl⟩
        rw [H3.out]
        go_wp2
        exact bodyPost_ret (v := .tuple #[.slice none 0 0, .int .i64 2]) (by simp [results, Tryd.results10, go_sem]) rfl ⟨_, _, _, rfl, Below.refl _ _, OwnI.nil _ _ _⟩
      · rw [h1, h2, h3] at hv
        have HV := Lib.hid (show V = true by simp [hv])
        have H1 := Lib.hid h1
        have H2 := Lib.hid h2
        have H3 := Lib.hid h3
        clear h1 h2 h3 hv
        go_enter Tryd.func10, Tryd.ntmps10
        go_wp2_with fail
        refine Calls.mono (spec_l27Mode) ?_
        rintro e _ ⟨rfl, rfl⟩
        rw [H1.out]
        go_wp2_with fail
        refine Calls.mono (spec_l27Mode) ?_
        rintro e _ ⟨rfl, rfl⟩
        rw [H2.out]
        go_wp2_with fail
        refine Calls.mono (spec_l27Role) ?_
        rintro e _ ⟨rfl, rfl⟩
        rw [H3.out]
        go_wp2_with fail
        go_loopw [10] (fun s10 wr => ∃ q : Nat, s10 = .int .i64 q ∧ q ≤ 6 ∧ Below w.heap.size w wr ∧ Hid (leastQ r key t f q = none)) (fun s10 _ => 6 - (intOf s10).toNat)
        case atStart => exact ⟨0, rfl, by omega, Below.refl _ _, Lib.hid rfl⟩
        case round =>
          obtain ⟨q, rfl, hq, hbl, A⟩ := hrel
          by_cases hlt : q < 6
          · have hlt' : (q : Int) < 6 := by omega
            go_wp2_with fail
            refine Calls.mono (IH.out q _ hlt H1.out) ?_
            rintro e w3 ⟨a3, n3, c3, hb3, hr3⟩
            have hs3 := hb3.size
            have hbs := hbl.size
            replace hbl : Below w.heap.size w w3 := by repeat (first | exact Below.refl _ _ | assumption | refine below_allocS ?_ _ | refine below_callS ?_ (by assumption) | (refine Below.alloc ?_ (by first | omega | (simp; done) | (simp; omega)) _) | (refine Below.setCell ?_ (by first | omega | (simp; done) | (simp; omega)) _) | refine Below.drew ?_ | refine below_drewN ?_ _ | (refine below_call ?_ (by assumption) (by first | omega | (simp; done) | (simp; omega))) | (refine Below.trans ?_ (by assumption)))
            clear hb3
            cases hx : srchF r key t q f with
            | none =>
              rw [hx] at hr3
              obtain rfl := hr3
              have HX := Lib.hid hx
              clear hx
              go_wp2_with fail
              go_roundw
              case rel => exact ⟨q + 1, by go_num, by omega, hbl, Lib.hid (leastQ_miss A.out HX.out)⟩
              case measure => simp [intOf]; omega
            | some x =>
              rw [hx] at hr3
              obtain ⟨rfl, ho, rfl⟩ := hr3
              obtain ⟨rfl, rfl⟩ := HH.out x HV.out (leastQ_hit A.out hx hlt)
              have HO := Lib.hid ho
              clear hx ho
              go_wp2
              exact bodyPost_ret (v := .tuple #[.slice a3 L.length c3, .int .i64 0]) (by simp [results, Tryd.results10, go_sem]) rfl ⟨_, _, _, rfl, hbl, HO.out.le (by omega)⟩
          · obtain rfl : q = 6 := by omega
            obtain ⟨rfl, rfl⟩ := HM.out HV.out A.out
            go_wp2
            exact bodyPost_ret (v := .tuple #[.slice none 0 0, .int .i64 4]) (by simp [results, Tryd.results10, go_sem]) rfl ⟨_, _, _, rfl, hbl, OwnI.nil _ _ _⟩
end Go.Proofs.YtfhogleillgcgaaDoor
