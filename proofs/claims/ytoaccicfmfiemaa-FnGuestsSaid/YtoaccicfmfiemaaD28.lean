/- Draws of layer 28, walked. -/
import Derived.Test.YtoaccicfmfiemaaDw
namespace Go.Proofs.Ytoaccicfmfiemaa
open Go.RowKit
set_option linter.unusedVariables false
set_option linter.unusedSimpArgs false
set_option maxRecDepth 100000 in
set_option maxHeartbeats 2000000 in
theorem src_l28DrawRule {b lo : Nat} {w : World} (hS : Src 147 w lo b) :
    Calls Try.prog 72 #[.pointer (some ⟨b, 0, none⟩)] w fun e w' => ∃ x y z, e = .returned (.agg #[.int .i64 x, .int .i64 y, .int .i64 z]) ∧ Sm5 x ∧ Sm5 y ∧ Sm5 z ∧ Only b (b + 1) w w' ∧ Src 147 w' lo b := by
  have HS := Lib.hid hS
  have hlt := hS.lt
  clear hS
  go_enter Try.func72, Try.ntmps72
  go_wp2_with fail
  refine Calls.mono (spec_l01Next (b := b) (lo := lo) (n := 200) (by repeat (first | with_reducible assumption | with_reducible exact Hid.out (by assumption) | with_reducible refine Src.set ?_ (by first | omega | (simp; omega)) (by first | omega | (simp; omega)) _ _ | with_reducible refine Src.alloc ?_ _ | with_reducible refine Src.drew ?_ | with_reducible refine Src.drewN ?_ _)) (by first | decide | (unfold I64; omega) | assumption)) ?_
  rintro e w1 ⟨r_w1, rfl, hr_w1, ho_w1, hs_w1⟩
  have hn_w1 : Only b (b + 1) w w1 := Only.trans (by repeat (first | with_reducible exact Only.refl _ _ _ | with_reducible assumption | with_reducible refine Only.set ?_ (by first | omega | (simp; omega)) _ _ | with_reducible refine Only.setN ?_ (by first | omega | (simp; omega)) _ _ | with_reducible refine Only.alloc ?_ _ | with_reducible refine Only.drew ?_ | with_reducible refine Only.drewN ?_ _ | with_reducible refine Only.then ?_ (by assumption) | with_reducible refine Only.trans ?_ (by assumption))) ho_w1
  have hz_w1 := ho_w1.size
  try simp at hz_w1
  have B1 := Lib.hid ((Blk.made w #[.int .i64 0, .int .i64 0, .int .i64 0] 25).apart ho_w1 (.inr (by omega)))
  have HS_w1 := Lib.hid hs_w1
  have h0_w1 := hr_w1.1
  have h1_w1 : r_w1 < 200 := by have h2 := hr_w1.2.1; have h3 := hr_w1.2.2; omega
  have Hr_w1 := Lib.hid hr_w1
  clear hs_w1 ho_w1 hr_w1
  clear HS
  go_wp2_with fail
  refine Calls.mono (spec_l01Next (b := b) (lo := lo) (n := 300) (by repeat (first | with_reducible assumption | with_reducible exact Hid.out (by assumption) | with_reducible refine Src.set ?_ (by first | omega | (simp; omega)) (by first | omega | (simp; omega)) _ _ | with_reducible refine Src.alloc ?_ _ | with_reducible refine Src.drew ?_ | with_reducible refine Src.drewN ?_ _)) (by first | decide | (unfold I64; omega) | assumption)) ?_
  rintro e w2 ⟨r_w2, rfl, hr_w2, ho_w2, hs_w2⟩
  have hn_w2 : Only b (b + 1) w w2 := Only.trans (by repeat (first | with_reducible exact Only.refl _ _ _ | with_reducible assumption | with_reducible refine Only.set ?_ (by first | omega | (simp; omega)) _ _ | with_reducible refine Only.setN ?_ (by first | omega | (simp; omega)) _ _ | with_reducible refine Only.alloc ?_ _ | with_reducible refine Only.drew ?_ | with_reducible refine Only.drewN ?_ _ | with_reducible refine Only.then ?_ (by assumption) | with_reducible refine Only.trans ?_ (by assumption))) ho_w2
  have hz_w2 := ho_w2.size
  try simp at hz_w2
  have B2 := Lib.hid ((B1.out).apart ho_w2 (.inr (by omega)))
  have HS_w2 := Lib.hid hs_w2
  have h0_w2 := hr_w2.1
  have h1_w2 : r_w2 < 300 := by have h2 := hr_w2.2.1; have h3 := hr_w2.2.2; omega
  have Hr_w2 := Lib.hid hr_w2
  clear hs_w2 ho_w2 hr_w2
  clear HS_w1 hn_w1 B1
  go_wp2_with fail
  refine Calls.mono (spec_l01Next (b := b) (lo := lo) (n := 500) (by repeat (first | with_reducible assumption | with_reducible exact Hid.out (by assumption) | with_reducible refine Src.set ?_ (by first | omega | (simp; omega)) (by first | omega | (simp; omega)) _ _ | with_reducible refine Src.alloc ?_ _ | with_reducible refine Src.drew ?_ | with_reducible refine Src.drewN ?_ _)) (by first | decide | (unfold I64; omega) | assumption)) ?_
  rintro e w3 ⟨r_w3, rfl, hr_w3, ho_w3, hs_w3⟩
  have hn_w3 : Only b (b + 1) w w3 := Only.trans (by repeat (first | with_reducible exact Only.refl _ _ _ | with_reducible assumption | with_reducible refine Only.set ?_ (by first | omega | (simp; omega)) _ _ | with_reducible refine Only.setN ?_ (by first | omega | (simp; omega)) _ _ | with_reducible refine Only.alloc ?_ _ | with_reducible refine Only.drew ?_ | with_reducible refine Only.drewN ?_ _ | with_reducible refine Only.then ?_ (by assumption) | with_reducible refine Only.trans ?_ (by assumption))) ho_w3
  have hz_w3 := ho_w3.size
  try simp at hz_w3
  have B3 := Lib.hid ((B2.out).apart ho_w3 (.inr (by omega)))
  have HS_w3 := Lib.hid hs_w3
  have h0_w3 := hr_w3.1
  have h1_w3 : r_w3 < 500 := by have h2 := hr_w3.2.1; have h3 := hr_w3.2.2; omega
  have Hr_w3 := Lib.hid hr_w3
  clear hs_w3 ho_w3 hr_w3
  clear HS_w2 hn_w2 B2
  have e0 : Sm5 (1000 + r_w1) := ⟨by omega, by omega⟩
  have e1 : Sm5 (1000 + r_w1 + r_w2) := ⟨by omega, by omega⟩
  have e2 : Sm5 (1000 + r_w1 + 400 + r_w3) := ⟨by omega, by omega⟩
  go_wp2_with fail
  refine Calls.mono (spec_l01Next (b := b) (lo := lo) (n := 40) (by repeat (first | with_reducible assumption | with_reducible exact Hid.out (by assumption) | with_reducible refine Src.set ?_ (by first | omega | (simp; omega)) (by first | omega | (simp; omega)) _ _ | with_reducible refine Src.alloc ?_ _ | with_reducible refine Src.drew ?_ | with_reducible refine Src.drewN ?_ _)) (by first | decide | (unfold I64; omega) | assumption)) ?_
  rintro e w4 ⟨r_w4, rfl, hr_w4, ho_w4, hs_w4⟩
  have hn_w4 : Only b (b + 1) w w4 := Only.trans (by repeat (first | with_reducible exact Only.refl _ _ _ | with_reducible assumption | with_reducible refine Only.set ?_ (by first | omega | (simp; omega)) _ _ | with_reducible refine Only.setN ?_ (by first | omega | (simp; omega)) _ _ | with_reducible refine Only.alloc ?_ _ | with_reducible refine Only.drew ?_ | with_reducible refine Only.drewN ?_ _ | with_reducible refine Only.then ?_ (by assumption) | with_reducible refine Only.trans ?_ (by assumption))) ho_w4
  have hz_w4 := ho_w4.size
  try simp at hz_w4
  have B4 := Lib.hid ((B3.out.keep (show Below w3.heap.size w3 (w3.alloc (.cells #[.int .i64 (1000 + r_w1), .int .i64 (1000 + r_w1 + r_w2), .int .i64 (1000 + r_w1 + 400 + r_w3)] 25)) by repeat (first | exact Below.refl _ _ | assumption | refine below_allocS ?_ _ | refine below_callS ?_ (by assumption) | (refine Below.alloc ?_ (by first | omega | (simp; done) | (simp; omega)) _) | (refine Below.setCell ?_ (by first | omega | (simp; done) | (simp; omega)) _) | refine Below.drew ?_ | refine below_drewN ?_ _ | (refine below_call ?_ (by assumption) (by first | omega | (simp; done) | (simp; omega))) | (refine Below.trans ?_ (by assumption))))).apart ho_w4 (.inr (by omega)))
  have C4 := Lib.hid ((Blk.made w3 #[.int .i64 (1000 + r_w1), .int .i64 (1000 + r_w1 + r_w2), .int .i64 (1000 + r_w1 + 400 + r_w3)] 25).apart ho_w4 (.inr (by omega)))
  have HS_w4 := Lib.hid hs_w4
  have h0_w4 := hr_w4.1
  have h1_w4 : r_w4 < 40 := by have h2 := hr_w4.2.1; have h3 := hr_w4.2.2; omega
  have Hr_w4 := Lib.hid hr_w4
  clear hs_w4 ho_w4 hr_w4
  clear HS_w3 hn_w3 B3
  generalize hx : 1000 + r_w1 = x at *
  generalize hy : x + r_w2 = y at *
  generalize hz : x + 400 + r_w3 = z at *
  have E0 := Lib.hid e0
  have E1 := Lib.hid e1
  have E2 := Lib.hid e2
  obtain ⟨e00, e01⟩ := e0
  obtain ⟨e10, e11⟩ := e1
  obtain ⟨e20, e21⟩ := e2
  have zp := B4.out.lt
  have fp := B4.out.free
  have p0 := B4.out.cell 0
  have p1 := B4.out.cell 1
  have p2 := B4.out.cell 2
  simp at p0 p1 p2
  have zq := C4.out.lt
  have fq := C4.out.free
  have q0 := C4.out.cell 0
  have q1 := C4.out.cell 1
  have q2 := C4.out.cell 2
  simp at q0 q1 q2
  by_cases h0 : r_w4 = 0
  · subst h0
    go_wp2_with fail
    refine Calls.mono (spec_l01Pick (b := b) (lo := lo) (l := [0, 1, y, y + 1]) (by repeat (first | with_reducible assumption | with_reducible exact Hid.out (by assumption) | with_reducible refine Src.set ?_ (by first | omega | (simp; omega)) (by first | omega | (simp; omega)) _ _ | with_reducible refine Src.alloc ?_ _ | with_reducible refine Src.drew ?_ | with_reducible refine Src.drewN ?_ _)) (ints_lit _ _ [0, 1, y, y + 1] (by repeat' (first | exact trivial | assumption | decide | omega | refine ⟨?_, ?_⟩))) (by decide) (by decide) (by intro g off e; (try simp at e); omega)) ?_
    rintro e w5 ⟨r_w5, rfl, hm_w5, hi_w5, ho_w5, hs_w5⟩
    have hn_w5 : Only b (b + 1) w w5 := Only.trans (by repeat (first | with_reducible exact Only.refl _ _ _ | with_reducible assumption | with_reducible refine Only.set ?_ (by first | omega | (simp; omega)) _ _ | with_reducible refine Only.setN ?_ (by first | omega | (simp; omega)) _ _ | with_reducible refine Only.alloc ?_ _ | with_reducible refine Only.drew ?_ | with_reducible refine Only.drewN ?_ _ | with_reducible refine Only.then ?_ (by assumption) | with_reducible refine Only.trans ?_ (by assumption))) ho_w5
    have hz_w5 := ho_w5.size
    try simp at hz_w5
    have B5 := Lib.hid ((B4.out.keep (show Below w4.heap.size w4 (w4.alloc (.cells #[.int .i64 0, .int .i64 1, .int .i64 y, .int .i64 (y + 1)] 2)) by repeat (first | exact Below.refl _ _ | assumption | refine below_allocS ?_ _ | refine below_callS ?_ (by assumption) | (refine Below.alloc ?_ (by first | omega | (simp; done) | (simp; omega)) _) | (refine Below.setCell ?_ (by first | omega | (simp; done) | (simp; omega)) _) | refine Below.drew ?_ | refine below_drewN ?_ _ | (refine below_call ?_ (by assumption) (by first | omega | (simp; done) | (simp; omega))) | (refine Below.trans ?_ (by assumption))))).apart ho_w5 (.inr (by omega)))
    have C5 := Lib.hid ((C4.out.keep (show Below w4.heap.size w4 (w4.alloc (.cells #[.int .i64 0, .int .i64 1, .int .i64 y, .int .i64 (y + 1)] 2)) by repeat (first | exact Below.refl _ _ | assumption | refine below_allocS ?_ _ | refine below_callS ?_ (by assumption) | (refine Below.alloc ?_ (by first | omega | (simp; done) | (simp; omega)) _) | (refine Below.setCell ?_ (by first | omega | (simp; done) | (simp; omega)) _) | refine Below.drew ?_ | refine below_drewN ?_ _ | (refine below_call ?_ (by assumption) (by first | omega | (simp; done) | (simp; omega))) | (refine Below.trans ?_ (by assumption))))).apart ho_w5 (.inr (by omega)))
    have HS_w5 := Lib.hid hs_w5
    have Hm_w5 := Lib.hid hm_w5
    clear hs_w5 ho_w5 hm_w5
    clear zp fp p0 p1 p2
    clear zq fq q0 q1 q2
    have zp := B5.out.lt
    have fp := B5.out.free
    have p0 := B5.out.cell 0
    have p1 := B5.out.cell 1
    have p2 := B5.out.cell 2
    simp at p0 p1 p2
    have zq := C5.out.lt
    have fq := C5.out.free
    have q0 := C5.out.cell 0
    have q1 := C5.out.cell 1
    have q2 := C5.out.cell 2
    simp at q0 q1 q2
    go_wp2_with fail
    refine bodyPost_ret (v := .agg #[.int .i64 r_w5, .int .i64 y, .int .i64 z]) (by simp [results, Try.results72, go_sem, *]) rfl ⟨_, y, z, rfl, ?_, E1.out, E2.out, by repeat (first | with_reducible exact Only.refl _ _ _ | with_reducible assumption | with_reducible refine Only.set ?_ (by first | omega | (simp; omega)) _ _ | with_reducible refine Only.setN ?_ (by first | omega | (simp; omega)) _ _ | with_reducible refine Only.alloc ?_ _ | with_reducible refine Only.drew ?_ | with_reducible refine Only.drewN ?_ _ | with_reducible refine Only.then ?_ (by assumption) | with_reducible refine Only.trans ?_ (by assumption)), by repeat (first | with_reducible assumption | with_reducible exact Hid.out (by assumption) | with_reducible refine Src.set ?_ (by first | omega | (simp; omega)) (by first | omega | (simp; omega)) _ _ | with_reducible refine Src.alloc ?_ _ | with_reducible refine Src.drew ?_ | with_reducible refine Src.drewN ?_ _)⟩
    have := Hm_w5.out
    simp only [List.mem_cons, List.not_mem_nil, or_false] at this
    unfold Sm5
    omega
  · by_cases h1 : r_w4 = 1
    · subst h1
      go_wp2_with fail
      refine Calls.mono (spec_l01Pick (b := b) (lo := lo) (l := [y - 1, y, 3000, 3001]) (by repeat (first | with_reducible assumption | with_reducible exact Hid.out (by assumption) | with_reducible refine Src.set ?_ (by first | omega | (simp; omega)) (by first | omega | (simp; omega)) _ _ | with_reducible refine Src.alloc ?_ _ | with_reducible refine Src.drew ?_ | with_reducible refine Src.drewN ?_ _)) (ints_lit _ _ [y - 1, y, 3000, 3001] (by repeat' (first | exact trivial | assumption | decide | omega | refine ⟨?_, ?_⟩))) (by decide) (by decide) (by intro g off e; (try simp at e); omega)) ?_
      rintro e w5 ⟨r_w5, rfl, hm_w5, hi_w5, ho_w5, hs_w5⟩
      have hn_w5 : Only b (b + 1) w w5 := Only.trans (by repeat (first | with_reducible exact Only.refl _ _ _ | with_reducible assumption | with_reducible refine Only.set ?_ (by first | omega | (simp; omega)) _ _ | with_reducible refine Only.setN ?_ (by first | omega | (simp; omega)) _ _ | with_reducible refine Only.alloc ?_ _ | with_reducible refine Only.drew ?_ | with_reducible refine Only.drewN ?_ _ | with_reducible refine Only.then ?_ (by assumption) | with_reducible refine Only.trans ?_ (by assumption))) ho_w5
      have hz_w5 := ho_w5.size
      try simp at hz_w5
      have B5 := Lib.hid ((B4.out.keep (show Below w4.heap.size w4 (w4.alloc (.cells #[.int .i64 (y - 1), .int .i64 y, .int .i64 3000, .int .i64 3001] 2)) by repeat (first | exact Below.refl _ _ | assumption | refine below_allocS ?_ _ | refine below_callS ?_ (by assumption) | (refine Below.alloc ?_ (by first | omega | (simp; done) | (simp; omega)) _) | (refine Below.setCell ?_ (by first | omega | (simp; done) | (simp; omega)) _) | refine Below.drew ?_ | refine below_drewN ?_ _ | (refine below_call ?_ (by assumption) (by first | omega | (simp; done) | (simp; omega))) | (refine Below.trans ?_ (by assumption))))).apart ho_w5 (.inr (by omega)))
      have C5 := Lib.hid ((C4.out.keep (show Below w4.heap.size w4 (w4.alloc (.cells #[.int .i64 (y - 1), .int .i64 y, .int .i64 3000, .int .i64 3001] 2)) by repeat (first | exact Below.refl _ _ | assumption | refine below_allocS ?_ _ | refine below_callS ?_ (by assumption) | (refine Below.alloc ?_ (by first | omega | (simp; done) | (simp; omega)) _) | (refine Below.setCell ?_ (by first | omega | (simp; done) | (simp; omega)) _) | refine Below.drew ?_ | refine below_drewN ?_ _ | (refine below_call ?_ (by assumption) (by first | omega | (simp; done) | (simp; omega))) | (refine Below.trans ?_ (by assumption))))).apart ho_w5 (.inr (by omega)))
      have HS_w5 := Lib.hid hs_w5
      have Hm_w5 := Lib.hid hm_w5
      clear hs_w5 ho_w5 hm_w5
      clear zp fp p0 p1 p2
      clear zq fq q0 q1 q2
      have zp := B5.out.lt
      have fp := B5.out.free
      have p0 := B5.out.cell 0
      have p1 := B5.out.cell 1
      have p2 := B5.out.cell 2
      simp at p0 p1 p2
      have zq := C5.out.lt
      have fq := C5.out.free
      have q0 := C5.out.cell 0
      have q1 := C5.out.cell 1
      have q2 := C5.out.cell 2
      simp at q0 q1 q2
      go_wp2_with fail
      refine bodyPost_ret (v := .agg #[.int .i64 x, .int .i64 y, .int .i64 r_w5]) (by simp [results, Try.results72, go_sem, *]) rfl ⟨x, y, _, rfl, E0.out, E1.out, ?_, by repeat (first | with_reducible exact Only.refl _ _ _ | with_reducible assumption | with_reducible refine Only.set ?_ (by first | omega | (simp; omega)) _ _ | with_reducible refine Only.setN ?_ (by first | omega | (simp; omega)) _ _ | with_reducible refine Only.alloc ?_ _ | with_reducible refine Only.drew ?_ | with_reducible refine Only.drewN ?_ _ | with_reducible refine Only.then ?_ (by assumption) | with_reducible refine Only.trans ?_ (by assumption)), by repeat (first | with_reducible assumption | with_reducible exact Hid.out (by assumption) | with_reducible refine Src.set ?_ (by first | omega | (simp; omega)) (by first | omega | (simp; omega)) _ _ | with_reducible refine Src.alloc ?_ _ | with_reducible refine Src.drew ?_ | with_reducible refine Src.drewN ?_ _)⟩
      have := Hm_w5.out
      simp only [List.mem_cons, List.not_mem_nil, or_false] at this
      unfold Sm5
      omega
    · have h0' : (r_w4 == 0) = false := by simpa using h0
      have h1' : (r_w4 == 1) = false := by simpa using h1
      clear h0 h1
      go_wp2
      refine bodyPost_ret (v := .agg #[.int .i64 x, .int .i64 y, .int .i64 z]) (by simp [results, Try.results72, go_sem, *]) rfl ⟨x, y, z, rfl, E0.out, E1.out, E2.out, by repeat (first | with_reducible exact Only.refl _ _ _ | with_reducible assumption | with_reducible refine Only.set ?_ (by first | omega | (simp; omega)) _ _ | with_reducible refine Only.setN ?_ (by first | omega | (simp; omega)) _ _ | with_reducible refine Only.alloc ?_ _ | with_reducible refine Only.drew ?_ | with_reducible refine Only.drewN ?_ _ | with_reducible refine Only.then ?_ (by assumption) | with_reducible refine Only.trans ?_ (by assumption)), by repeat (first | with_reducible assumption | with_reducible exact Hid.out (by assumption) | with_reducible refine Src.set ?_ (by first | omega | (simp; omega)) (by first | omega | (simp; omega)) _ _ | with_reducible refine Src.alloc ?_ _ | with_reducible refine Src.drew ?_ | with_reducible refine Src.drewN ?_ _)⟩
theorem spec_l28DrawRule {b lo : Nat} {w0 w : World} (hS : Dw 147 lo b w0 w) :
    Calls Try.prog 72 #[.pointer (some ⟨b, 0, none⟩)] w fun e w' => ∃ x y z, e = .returned (.agg #[.int .i64 x, .int .i64 y, .int .i64 z]) ∧ Sm5 x ∧ Sm5 y ∧ Sm5 z ∧ Dw 147 lo b w w' :=
  (src_l28DrawRule hS.src).mono fun e w' ⟨x, y, z, h1, h2, h3, h4, h5, h6⟩ => ⟨x, y, z, h1, h2, h3, h4, h5, h6, hS.src.lt.2⟩
set_option maxRecDepth 100000 in
set_option maxHeartbeats 400000 in
theorem spec_l28DrawHeight {b lo : Nat} {w0 w : World} {x y z : Int} (hS : Dw 147 lo b w0 w) (hx : Sm5 x) (hy : Sm5 y) (hz : Sm5 z) :
    Calls Try.prog 73 #[.pointer (some ⟨b, 0, none⟩), .agg #[.int .i64 x, .int .i64 y, .int .i64 z]] w fun e w' => ∃ r, e = .returned (.int .i64 r) ∧ Sm r ∧ Dw 147 lo b w w' := by
  have HD := Lib.hid hS.start
  have hbw := hS.src.lt.2
  clear hS
  obtain ⟨ex0, ex1⟩ := hx
  obtain ⟨ey0, ey1⟩ := hy
  obtain ⟨ez0, ez1⟩ := hz
  go_enter Try.func73, Try.ntmps73
  go_wp2_with fail
  refine Calls.mono (dw_l01Next (w0 := w) (b := b) (lo := lo) (n := 40) (by repeat (first | exact Dw.start HD.out | with_reducible assumption | with_reducible refine Dw.alloc ?_ _ | with_reducible refine Dw.drew ?_ | with_reducible refine Dw.drewN ?_ _ | with_reducible refine Dw.set ?_ (by first | omega | (simp; omega)) _ _ | with_reducible refine Dw.trans ?_ (by assumption))) (by first | decide | (unfold I64; omega) | assumption)) ?_
  rintro e w1 ⟨r1, rfl, hr, hd⟩
  have hst : Dw 147 lo b w w1 := Dw.trans (by repeat (first | exact Dw.start HD.out | with_reducible assumption | with_reducible refine Dw.alloc ?_ _ | with_reducible refine Dw.drew ?_ | with_reducible refine Dw.drewN ?_ _ | with_reducible refine Dw.set ?_ (by first | omega | (simp; omega)) _ _ | with_reducible refine Dw.trans ?_ (by assumption))) hd
  have hs_w1 : w.heap.size + 1 ≤ w1.heap.size := by have h := hd.size; (try simp at h); omega
  have B := Lib.hid (show Blk w1 (w.heap.size) #[.int .i64 x, .int .i64 y, .int .i64 z] 25 by have hh := ((Blk.made w #[.int .i64 x, .int .i64 y, .int .i64 z] 25)).dw hd (by simp; omega); simpa using hh)
  replace HD := Lib.hid (HD.out.trans hst)
  clear hst hd
  have h0_r1 := hr.1
  have h1_r1 : r1 < 40 := by have h2 := hr.2.1; have h3 := hr.2.2; omega
  clear hr
  by_cases hq_r1_0 : r1 = 0
  · skip
    subst hq_r1_0
    have u_B_0 : w1.cell? ⟨w.heap.size, 0, none⟩ = some (.int .i64 x) := (B.out).cell 0
    have u_B_1 : w1.cell? ⟨w.heap.size, 1, none⟩ = some (.int .i64 y) := (B.out).cell 1
    have u_B_2 : w1.cell? ⟨w.heap.size, 2, none⟩ = some (.int .i64 z) := (B.out).cell 2
    have v_B : w.heap.size < w1.heap.size := (B.out).lt
    have f_B : w1.frozen? ⟨w.heap.size, 0, none⟩ = false := (B.out).free 0
    go_wp2_with fail
    refine Calls.mono (dw_l01Pick (w0 := w1) (b := b) (lo := lo) (l := [0, 1, 3000, 3001]) (by repeat (first | exact Dw.start HD.out | with_reducible assumption | with_reducible refine Dw.alloc ?_ _ | with_reducible refine Dw.drew ?_ | with_reducible refine Dw.drewN ?_ _ | with_reducible refine Dw.set ?_ (by first | omega | (simp; omega)) _ _ | with_reducible refine Dw.trans ?_ (by assumption))) (ints_lit _ _ [0, 1, 3000, 3001] (by repeat' (first | exact trivial | assumption | decide | omega | refine ⟨?_, ?_⟩))) (by decide) (by decide) (by intro g off e; (try simp at e); omega)) ?_
    rintro e w2 ⟨r2, rfl, hm, hi_r2, hd⟩
    clear u_B_0 u_B_1 u_B_2 v_B f_B
    have hst : Dw 147 lo b w1 w2 := Dw.trans (by repeat (first | exact Dw.start HD.out | with_reducible assumption | with_reducible refine Dw.alloc ?_ _ | with_reducible refine Dw.drew ?_ | with_reducible refine Dw.drewN ?_ _ | with_reducible refine Dw.set ?_ (by first | omega | (simp; omega)) _ _ | with_reducible refine Dw.trans ?_ (by assumption))) hd
    have hs_w2 : w1.heap.size + 1 ≤ w2.heap.size := by have h := hd.size; (try simp at h); omega
    replace B := Lib.hid (B.out.dw hst (by omega))
    replace HD := Lib.hid (HD.out.trans hst)
    clear hst hd
    have Hm_r2 := Lib.hid hm
    clear hm
    have hm := Hm_r2.out
    simp only [List.mem_cons, List.not_mem_nil, or_false] at hm
    have hA : Sm r2 := ⟨by omega, by omega⟩
    clear hm
    go_wp2
    go_ret
    exact ⟨_, rfl, hA, HD.out⟩
  · skip
    by_cases hq_r1_1 : r1 = 1
    · skip
      subst hq_r1_1
      have u_B_0 : w1.cell? ⟨w.heap.size, 0, none⟩ = some (.int .i64 x) := (B.out).cell 0
      have u_B_1 : w1.cell? ⟨w.heap.size, 1, none⟩ = some (.int .i64 y) := (B.out).cell 1
      have u_B_2 : w1.cell? ⟨w.heap.size, 2, none⟩ = some (.int .i64 z) := (B.out).cell 2
      have v_B : w.heap.size < w1.heap.size := (B.out).lt
      have f_B : w1.frozen? ⟨w.heap.size, 0, none⟩ = false := (B.out).free 0
      go_wp2_with fail
      refine Calls.mono (dw_l01Pick (w0 := w1) (b := b) (lo := lo) (l := [x - 1, z + 1]) (by repeat (first | exact Dw.start HD.out | with_reducible assumption | with_reducible refine Dw.alloc ?_ _ | with_reducible refine Dw.drew ?_ | with_reducible refine Dw.drewN ?_ _ | with_reducible refine Dw.set ?_ (by first | omega | (simp; omega)) _ _ | with_reducible refine Dw.trans ?_ (by assumption))) (ints_lit _ _ [x - 1, z + 1] (by repeat' (first | exact trivial | assumption | decide | omega | refine ⟨?_, ?_⟩))) (by decide) (by decide) (by intro g off e; (try simp at e); omega)) ?_
      rintro e w2 ⟨r2, rfl, hm, hi_r2, hd⟩
      clear u_B_0 u_B_1 u_B_2 v_B f_B
      have hst : Dw 147 lo b w1 w2 := Dw.trans (by repeat (first | exact Dw.start HD.out | with_reducible assumption | with_reducible refine Dw.alloc ?_ _ | with_reducible refine Dw.drew ?_ | with_reducible refine Dw.drewN ?_ _ | with_reducible refine Dw.set ?_ (by first | omega | (simp; omega)) _ _ | with_reducible refine Dw.trans ?_ (by assumption))) hd
      have hs_w2 : w1.heap.size + 1 ≤ w2.heap.size := by have h := hd.size; (try simp at h); omega
      replace B := Lib.hid (B.out.dw hst (by omega))
      replace HD := Lib.hid (HD.out.trans hst)
      clear hst hd
      have Hm_r2 := Lib.hid hm
      clear hm
      have hm := Hm_r2.out
      simp only [List.mem_cons, List.not_mem_nil, or_false] at hm
      have hA : Sm r2 := ⟨by omega, by omega⟩
      clear hm
      go_wp2
      go_ret
      exact ⟨_, rfl, hA, HD.out⟩
    · skip
      by_cases hq_r1_2 : r1 = 2
      · skip
        subst hq_r1_2
        have u_B_0 : w1.cell? ⟨w.heap.size, 0, none⟩ = some (.int .i64 x) := (B.out).cell 0
        have u_B_1 : w1.cell? ⟨w.heap.size, 1, none⟩ = some (.int .i64 y) := (B.out).cell 1
        have u_B_2 : w1.cell? ⟨w.heap.size, 2, none⟩ = some (.int .i64 z) := (B.out).cell 2
        have v_B : w.heap.size < w1.heap.size := (B.out).lt
        have f_B : w1.frozen? ⟨w.heap.size, 0, none⟩ = false := (B.out).free 0
        go_wp2_with fail
        refine Calls.mono (dw_l01Pick (w0 := w1) (b := b) (lo := lo) (l := [x, y - 1, y, z]) (by repeat (first | exact Dw.start HD.out | with_reducible assumption | with_reducible refine Dw.alloc ?_ _ | with_reducible refine Dw.drew ?_ | with_reducible refine Dw.drewN ?_ _ | with_reducible refine Dw.set ?_ (by first | omega | (simp; omega)) _ _ | with_reducible refine Dw.trans ?_ (by assumption))) (ints_lit _ _ [x, y - 1, y, z] (by repeat' (first | exact trivial | assumption | decide | omega | refine ⟨?_, ?_⟩))) (by decide) (by decide) (by intro g off e; (try simp at e); omega)) ?_
        rintro e w2 ⟨r2, rfl, hm, hi_r2, hd⟩
        clear u_B_0 u_B_1 u_B_2 v_B f_B
        have hst : Dw 147 lo b w1 w2 := Dw.trans (by repeat (first | exact Dw.start HD.out | with_reducible assumption | with_reducible refine Dw.alloc ?_ _ | with_reducible refine Dw.drew ?_ | with_reducible refine Dw.drewN ?_ _ | with_reducible refine Dw.set ?_ (by first | omega | (simp; omega)) _ _ | with_reducible refine Dw.trans ?_ (by assumption))) hd
        have hs_w2 : w1.heap.size + 1 ≤ w2.heap.size := by have h := hd.size; (try simp at h); omega
        replace B := Lib.hid (B.out.dw hst (by omega))
        replace HD := Lib.hid (HD.out.trans hst)
        clear hst hd
        have Hm_r2 := Lib.hid hm
        clear hm
        have hm := Hm_r2.out
        simp only [List.mem_cons, List.not_mem_nil, or_false] at hm
        have hA : Sm r2 := ⟨by omega, by omega⟩
        clear hm
        go_wp2
        go_ret
        exact ⟨_, rfl, hA, HD.out⟩
      · skip
        by_cases hq_r1_3 : r1 = 3
        · skip
          subst hq_r1_3
          have u_B_0 : w1.cell? ⟨w.heap.size, 0, none⟩ = some (.int .i64 x) := (B.out).cell 0
          have u_B_1 : w1.cell? ⟨w.heap.size, 1, none⟩ = some (.int .i64 y) := (B.out).cell 1
          have u_B_2 : w1.cell? ⟨w.heap.size, 2, none⟩ = some (.int .i64 z) := (B.out).cell 2
          have v_B : w.heap.size < w1.heap.size := (B.out).lt
          have f_B : w1.frozen? ⟨w.heap.size, 0, none⟩ = false := (B.out).free 0
          go_wp2_with fail
          refine Calls.mono (dw_l01Pick (w0 := w1) (b := b) (lo := lo) (l := [x, y - 1, y, z]) (by repeat (first | exact Dw.start HD.out | with_reducible assumption | with_reducible refine Dw.alloc ?_ _ | with_reducible refine Dw.drew ?_ | with_reducible refine Dw.drewN ?_ _ | with_reducible refine Dw.set ?_ (by first | omega | (simp; omega)) _ _ | with_reducible refine Dw.trans ?_ (by assumption))) (ints_lit _ _ [x, y - 1, y, z] (by repeat' (first | exact trivial | assumption | decide | omega | refine ⟨?_, ?_⟩))) (by decide) (by decide) (by intro g off e; (try simp at e); omega)) ?_
          rintro e w2 ⟨r2, rfl, hm, hi_r2, hd⟩
          clear u_B_0 u_B_1 u_B_2 v_B f_B
          have hst : Dw 147 lo b w1 w2 := Dw.trans (by repeat (first | exact Dw.start HD.out | with_reducible assumption | with_reducible refine Dw.alloc ?_ _ | with_reducible refine Dw.drew ?_ | with_reducible refine Dw.drewN ?_ _ | with_reducible refine Dw.set ?_ (by first | omega | (simp; omega)) _ _ | with_reducible refine Dw.trans ?_ (by assumption))) hd
          have hs_w2 : w1.heap.size + 1 ≤ w2.heap.size := by have h := hd.size; (try simp at h); omega
          replace B := Lib.hid (B.out.dw hst (by omega))
          replace HD := Lib.hid (HD.out.trans hst)
          clear hst hd
          have Hm_r2 := Lib.hid hm
          clear hm
          have hm := Hm_r2.out
          simp only [List.mem_cons, List.not_mem_nil, or_false] at hm
          have hA : Sm r2 := ⟨by omega, by omega⟩
          clear hm
          go_wp2
          go_ret
          exact ⟨_, rfl, hA, HD.out⟩
        · skip
          have hq'_r1_0 : (r1 == 0) = false := by simpa using hq_r1_0
          clear hq_r1_0
          have hq'_r1_1 : (r1 == 1) = false := by simpa using hq_r1_1
          clear hq_r1_1
          have hq'_r1_2 : (r1 == 2) = false := by simpa using hq_r1_2
          clear hq_r1_2
          have hq'_r1_3 : (r1 == 3) = false := by simpa using hq_r1_3
          clear hq_r1_3
          have u_B_0 : w1.cell? ⟨w.heap.size, 0, none⟩ = some (.int .i64 x) := (B.out).cell 0
          have u_B_1 : w1.cell? ⟨w.heap.size, 1, none⟩ = some (.int .i64 y) := (B.out).cell 1
          have u_B_2 : w1.cell? ⟨w.heap.size, 2, none⟩ = some (.int .i64 z) := (B.out).cell 2
          have v_B : w.heap.size < w1.heap.size := (B.out).lt
          have f_B : w1.frozen? ⟨w.heap.size, 0, none⟩ = false := (B.out).free 0
          go_wp2_with fail
          refine Calls.mono (dw_l01Next (w0 := w1) (b := b) (lo := lo) (n := 3) (by repeat (first | exact Dw.start HD.out | with_reducible assumption | with_reducible refine Dw.alloc ?_ _ | with_reducible refine Dw.drew ?_ | with_reducible refine Dw.drewN ?_ _ | with_reducible refine Dw.set ?_ (by first | omega | (simp; omega)) _ _ | with_reducible refine Dw.trans ?_ (by assumption))) (by first | decide | (unfold I64; omega) | assumption)) ?_
          rintro e w2 ⟨r2, rfl, hr, hd⟩
          clear u_B_0 u_B_1 u_B_2 v_B f_B
          have hst : Dw 147 lo b w1 w2 := Dw.trans (by repeat (first | exact Dw.start HD.out | with_reducible assumption | with_reducible refine Dw.alloc ?_ _ | with_reducible refine Dw.drew ?_ | with_reducible refine Dw.drewN ?_ _ | with_reducible refine Dw.set ?_ (by first | omega | (simp; omega)) _ _ | with_reducible refine Dw.trans ?_ (by assumption))) hd
          have hs_w2 : w1.heap.size + 0 ≤ w2.heap.size := by have h := hd.size; (try simp at h); omega
          replace B := Lib.hid (B.out.dw hst (by omega))
          replace HD := Lib.hid (HD.out.trans hst)
          clear hst hd
          have h0_r2 := hr.1
          have h1_r2 : r2 < 3 := by have h2 := hr.2.1; have h3 := hr.2.2; omega
          clear hr
          by_cases hq_r2_0 : r2 = 0
          · skip
            subst hq_r2_0
            go_wp2_with fail
            have u_B_0 : w2.cell? ⟨w.heap.size, 0, none⟩ = some (.int .i64 x) := (B.out).cell 0
            have u_B_1 : w2.cell? ⟨w.heap.size, 1, none⟩ = some (.int .i64 y) := (B.out).cell 1
            have u_B_2 : w2.cell? ⟨w.heap.size, 2, none⟩ = some (.int .i64 z) := (B.out).cell 2
            have v_B : w.heap.size < w2.heap.size := (B.out).lt
            have f_B : w2.frozen? ⟨w.heap.size, 0, none⟩ = false := (B.out).free 0
            have hI : I64 (y - x) := ⟨by omega, by omega⟩
            have hdW : Dw 147 lo b w2 w2 := HD.out.start
            have ew_3_5 : IntKind.i64.wrap (y - x) = y - x := IntWalk.i64_in _ (by omega)
            go_region_held3 (fun wx => wx.cell? ⟨w.heap.size, 0, none⟩ = some (.int .i64 x) ∧ wx.cell? ⟨w.heap.size, 1, none⟩ = some (.int .i64 y) ∧ wx.cell? ⟨w.heap.size, 2, none⟩ = some (.int .i64 z) ∧ w.heap.size < wx.heap.size ∧ Dw 147 lo b w2 wx) (((try go_split_ands); (repeat' apply And.intro) <;> first | (with_reducible assumption) | (with_reducible exact cell_drew (by assumption)) | (with_reducible exact lt_drew (by assumption)) | (with_reducible exact frz_drew (by assumption)) | (with_reducible exact val_drew (by assumption)) | (with_reducible exact Dw.drew (by assumption)) | (with_reducible exact Src.drew (by assumption)) | (with_reducible exact Below.drew (by assumption)) | (with_reducible exact hdx.src) | (with_reducible exact hdx.fin (by assumption) hlo) | (with_reducible exact Dw.frz hdx (by assumption) (by assumption) (by omega)) | (with_reducible exact Dw.has hdx (by assumption) (by omega)) | (with_reducible exact (hcx _ _ (by assumption) (by omega)).trans (by assumption)) | (with_reducible exact Dw.trans (by assumption) hdx) | (with_reducible exact Nat.lt_of_lt_of_le (by assumption) hsx) | (with_reducible exact cell_alloc (by assumption)) | (with_reducible exact lt_alloc (by assumption)) | (with_reducible exact frz_alloc (by assumption) (by assumption)) | ((with_reducible (repeat refine cell_set ?_ (by first | omega | (simp; omega)))); with_reducible assumption) | ((with_reducible (repeat refine lt_set ?_)); with_reducible assumption) | ((with_reducible (repeat refine frz_set ?_)); with_reducible assumption) | ((with_reducible (repeat refine Dw.set ?_ (by first | omega | (simp; omega)) _ _)); with_reducible assumption) | ((with_reducible refine valAt_of ?_); (with_reducible (repeat refine isSome_set ?_)); (with_reducible exact some_is (by assumption))) | ((with_reducible (repeat refine Src.set ?_ (by first | omega | (simp; omega)) (by first | omega | (simp; omega)) _ _)); with_reducible assumption) | ((with_reducible (repeat refine Below.setCell ?_ (by first | omega | (simp; omega)) _)); with_reducible assumption) | omega)) (first | (go_at_call 93; go_split_ands; refine Calls.mono (dw_l01Next (w0 := w2) (b := b) (lo := lo) (n := y - x) (by assumption) hI) ?_; rintro e w3 ⟨r3, rfl, hr, hdx⟩; have hcx := ocell hdx.only; have hsx := hdx.size))
            go_split_ands
            have hd : Dw 147 lo b w2 w3 := by assumption
            clear u_B_0 u_B_1 u_B_2 v_B f_B
            have hst : Dw 147 lo b w2 w3 := Dw.trans (by repeat (first | exact Dw.start HD.out | with_reducible assumption | with_reducible refine Dw.alloc ?_ _ | with_reducible refine Dw.drew ?_ | with_reducible refine Dw.drewN ?_ _ | with_reducible refine Dw.set ?_ (by first | omega | (simp; omega)) _ _ | with_reducible refine Dw.trans ?_ (by assumption))) hd
            have hs_w3 : w2.heap.size + 0 ≤ w3.heap.size := by have h := hd.size; (try simp at h); omega
            replace B := Lib.hid (B.out.dw hst (by omega))
            replace HD := Lib.hid (HD.out.trans hst)
            clear hst hd
            have h0_r3 := hr.1
            have h1_r3 : r3 < y - x ∨ (y - x ≤ 1 ∧ r3 ≤ 0) := by have h2 := hr.2.1; have h3 := hr.2.2; omega
            clear hr hcx hsx hdx
            have hA : Sm (IntKind.i64.wrap (x + r3)) := by rw [IntWalk.i64_in _ (by omega)]; exact ⟨by omega, by omega⟩
            go_wp2
            go_ret
            exact ⟨_, rfl, hA, HD.out⟩
          · skip
            have hq'_r2_0 : (r2 == 0) = false := by simpa using hq_r2_0
            clear hq_r2_0
            go_wp2_with fail
            have u_B_0 : w2.cell? ⟨w.heap.size, 0, none⟩ = some (.int .i64 x) := (B.out).cell 0
            have u_B_1 : w2.cell? ⟨w.heap.size, 1, none⟩ = some (.int .i64 y) := (B.out).cell 1
            have u_B_2 : w2.cell? ⟨w.heap.size, 2, none⟩ = some (.int .i64 z) := (B.out).cell 2
            have v_B : w.heap.size < w2.heap.size := (B.out).lt
            have f_B : w2.frozen? ⟨w.heap.size, 0, none⟩ = false := (B.out).free 0
            have hI : I64 (z - y + 1) := ⟨by omega, by omega⟩
            have hdW : Dw 147 lo b w2 w2 := HD.out.start
            have ew_3_5 : IntKind.i64.wrap (z - y) = z - y := IntWalk.i64_in _ (by omega)
            have ew_3_9 : IntKind.i64.wrap (z - y + 1) = z - y + 1 := IntWalk.i64_in _ (by omega)
            go_region_held3 (fun wx => wx.cell? ⟨w.heap.size, 0, none⟩ = some (.int .i64 x) ∧ wx.cell? ⟨w.heap.size, 1, none⟩ = some (.int .i64 y) ∧ wx.cell? ⟨w.heap.size, 2, none⟩ = some (.int .i64 z) ∧ w.heap.size < wx.heap.size ∧ Dw 147 lo b w2 wx) (((try go_split_ands); (repeat' apply And.intro) <;> first | (with_reducible assumption) | (with_reducible exact cell_drew (by assumption)) | (with_reducible exact lt_drew (by assumption)) | (with_reducible exact frz_drew (by assumption)) | (with_reducible exact val_drew (by assumption)) | (with_reducible exact Dw.drew (by assumption)) | (with_reducible exact Src.drew (by assumption)) | (with_reducible exact Below.drew (by assumption)) | (with_reducible exact hdx.src) | (with_reducible exact hdx.fin (by assumption) hlo) | (with_reducible exact Dw.frz hdx (by assumption) (by assumption) (by omega)) | (with_reducible exact Dw.has hdx (by assumption) (by omega)) | (with_reducible exact (hcx _ _ (by assumption) (by omega)).trans (by assumption)) | (with_reducible exact Dw.trans (by assumption) hdx) | (with_reducible exact Nat.lt_of_lt_of_le (by assumption) hsx) | (with_reducible exact cell_alloc (by assumption)) | (with_reducible exact lt_alloc (by assumption)) | (with_reducible exact frz_alloc (by assumption) (by assumption)) | ((with_reducible (repeat refine cell_set ?_ (by first | omega | (simp; omega)))); with_reducible assumption) | ((with_reducible (repeat refine lt_set ?_)); with_reducible assumption) | ((with_reducible (repeat refine frz_set ?_)); with_reducible assumption) | ((with_reducible (repeat refine Dw.set ?_ (by first | omega | (simp; omega)) _ _)); with_reducible assumption) | ((with_reducible refine valAt_of ?_); (with_reducible (repeat refine isSome_set ?_)); (with_reducible exact some_is (by assumption))) | ((with_reducible (repeat refine Src.set ?_ (by first | omega | (simp; omega)) (by first | omega | (simp; omega)) _ _)); with_reducible assumption) | ((with_reducible (repeat refine Below.setCell ?_ (by first | omega | (simp; omega)) _)); with_reducible assumption) | omega)) (first | (go_at_call 93; go_split_ands; refine Calls.mono (dw_l01Next (w0 := w2) (b := b) (lo := lo) (n := z - y + 1) (by assumption) hI) ?_; rintro e w3 ⟨r3, rfl, hr, hdx⟩; have hcx := ocell hdx.only; have hsx := hdx.size))
            go_split_ands
            have hd : Dw 147 lo b w2 w3 := by assumption
            clear u_B_0 u_B_1 u_B_2 v_B f_B
            have hst : Dw 147 lo b w2 w3 := Dw.trans (by repeat (first | exact Dw.start HD.out | with_reducible assumption | with_reducible refine Dw.alloc ?_ _ | with_reducible refine Dw.drew ?_ | with_reducible refine Dw.drewN ?_ _ | with_reducible refine Dw.set ?_ (by first | omega | (simp; omega)) _ _ | with_reducible refine Dw.trans ?_ (by assumption))) hd
            have hs_w3 : w2.heap.size + 0 ≤ w3.heap.size := by have h := hd.size; (try simp at h); omega
            replace B := Lib.hid (B.out.dw hst (by omega))
            replace HD := Lib.hid (HD.out.trans hst)
            clear hst hd
            have h0_r3 := hr.1
            have h1_r3 : r3 < z - y + 1 ∨ (z - y + 1 ≤ 1 ∧ r3 ≤ 0) := by have h2 := hr.2.1; have h3 := hr.2.2; omega
            clear hr hcx hsx hdx
            have hA : Sm (IntKind.i64.wrap (y + r3)) := by rw [IntWalk.i64_in _ (by omega)]; exact ⟨by omega, by omega⟩
            go_wp2
            go_ret
            exact ⟨_, rfl, hA, HD.out⟩

end Go.Proofs.Ytoaccicfmfiemaa
