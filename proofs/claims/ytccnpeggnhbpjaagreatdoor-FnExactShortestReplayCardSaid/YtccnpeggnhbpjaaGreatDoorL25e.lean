/- The events that the rules of a trace stand for, walked. -/
import Derived.Test.YtccnpeggnhbpjaaGreatDoorQl
namespace Go.Proofs.YtccnpeggnhbpjaaGreatDoor
open Go.RowKit
set_option linter.unusedVariables false
set_option linter.unusedSimpArgs false
def evOf (k : I3) : I3 := if k.a = 4 then ⟨1, k.b, 1⟩ else if k.a = 5 then ⟨1, k.b, 2⟩ else if k.a = 6 then ⟨1, k.b, 3⟩ else ⟨0, k.b, 0⟩
theorem evOf_4 {k : I3} (h : k.a = 4) : evOf k = ⟨1, k.b, 1⟩ := by rw [evOf, if_pos h]
theorem evOf_5 {k : I3} (h : k.a = 5) : evOf k = ⟨1, k.b, 2⟩ := by rw [evOf, if_neg (by omega), if_pos h]
theorem evOf_6 {k : I3} (h : k.a = 6) : evOf k = ⟨1, k.b, 3⟩ := by rw [evOf, if_neg (by omega), if_neg (by omega), if_pos h]
theorem evOf_0 {k : I3} (h4 : k.a ≠ 4) (h5 : k.a ≠ 5) (h6 : k.a ≠ 6) : evOf k = ⟨0, k.b, 0⟩ := by rw [evOf, if_neg h4, if_neg h5, if_neg h6]
def evC (b : Int) (l : List Int) (bud : Int) (sec : Bool) (tr : List Int) : Int := if rdC b l bud = 0 then (if 200 < tr.length then 3 else if allIn 0 ((rdL b l bud sec).length - 1) tr = true then 0 else 4) else rdC b l bud
def evL (b : Int) (l : List Int) (bud : Int) (sec : Bool) (tr : List Int) : List I3 := if evC b l bud sec tr = 0 then tr.map (fun r => evOf ((rdL b l bud sec).getD r.toNat ⟨0, 0, 0⟩)) else []
theorem evL_len {b : Int} {l : List Int} {bud : Int} {sec : Bool} {tr : List Int} : (evL b l bud sec tr).length ≤ tr.length := by
  unfold evL; split
  · simp
  · simp
theorem OwnF.nilE {α : Type} {k : Nat} {enc : α → List Value} {ok : α → Prop} {E : TypeId} (w : World) (base : Nat) (hk : ∀ x, (enc x).length = k) : OwnF k enc ok E w base none 0 0 [] := ⟨World.ownsRow_nil w base _ k, (fun _ h => by cases h), rfl, hk⟩
def EvRet (T : TypeId) (w : World) (L : List I3) (code : Int) (e : Ending) (w' : World) : Prop := ∃ n a c, e = .returned (.tuple #[.slice a n c, .int .i64 code]) ∧ Below w.heap.size w w' ∧ OwnF 3 I3.enc I3.ok T w' w.heap.size a n c L
theorem map_take_snoc {α β : Type} (f : α → β) {l : List α} {k : Nat} {x : α} (h : l[k]? = some x) : (l.take (k + 1)).map f = (l.take k).map f ++ [f x] := by
  rw [take_at h, List.map_append]; rfl
theorem kindsL_ok {n B D : Nat} {sec : Bool} (hn : n ≤ 100) (hB : B ≤ 100) (hD : D ≤ 100) : ∀ k ∈ kindsL n B D sec, k.ok := by
  intro k hk
  rw [kindsL, List.mem_append] at hk
  rcases hk with hk | hk
  · simp only [trI, trB', trK, List.mem_flatMap, List.mem_range, List.mem_map, List.mem_filter] at hk
    obtain ⟨i, hi, b, hb, j, ⟨hj, _⟩, rfl⟩ := hk
    unfold I3.ok I64; simp; omega
  · simp only [faI, faB, faK, List.mem_flatMap, List.mem_range, List.mem_map, List.mem_filter] at hk
    obtain ⟨i, hi, b, hb, j, ⟨hj, _⟩, rfl⟩ := hk
    unfold I3.ok I64; simp; omega
theorem evOf_ok {k : I3} (h : k.ok) : (evOf k).ok := by
  obtain ⟨_, h2, _⟩ := h
  unfold evOf
  split
  · exact ⟨(by unfold I64; simp), h2, (by unfold I64; simp)⟩
  · split
    · exact ⟨(by unfold I64; simp), h2, (by unfold I64; simp)⟩
    · split
      · exact ⟨(by unfold I64; simp), h2, (by unfold I64; simp)⟩
      · exact ⟨(by unfold I64; simp), h2, (by unfold I64; simp)⟩
theorem Tryz.infoEv : (Tryz.prog.info? 82).map (fun i => (i.zero, i.size, i.bytes)) = some (some (.agg #[.int .i64 0, .int .i64 0, .int .i64 0]), 3, 24) := by kernel_rfl
set_option maxHeartbeats 1000000 in
theorem impl_event {y : RR} {w : World} (hy : y.x.ok) : Calls Tryz.prog 154 #[.agg #[.string y.nm, .slice y.ga y.gn y.gc, .slice y.ea y.en y.ec, .int .i64 y.x.a, .int .i64 y.x.b, .int .i64 y.x.c]] w fun e w' => e = .returned (.agg #[.int .i64 (evOf y.x).a, .int .i64 (evOf y.x).b, .int .i64 (evOf y.x).c]) ∧ Below w.heap.size w w' := by
  obtain ⟨nm, ga, gn, gc, ea, en, ec, ⟨xa, xb, xc⟩⟩ := y
  by_cases h4 : xa = 4
  · rw [evOf_4 h4]
    have q4 : (xa == 4) = true := by simp [h4]
    clear h4
    go_enter Tryz.func154, Tryz.ntmps154
    go_wp2
    exact bodyPost_ret (v := .agg #[.int .i64 1, .int .i64 xb, .int .i64 1]) (by simp [results, Tryz.results154, go_sem]) rfl ⟨rfl, by repeat (first | exact Below.refl _ _ | assumption | refine below_allocS ?_ _ | refine below_callS ?_ (by assumption) | (refine Below.alloc ?_ (by first | omega | (simp; done) | (simp; omega)) _) | (refine Below.setCell ?_ (by first | omega | (simp; done) | (simp; omega)) _) | refine Below.drew ?_ | refine below_drewN ?_ _ | (refine below_call ?_ (by assumption) (by first | omega | (simp; done) | (simp; omega))) | (refine Below.trans ?_ (by assumption)))⟩
  · have q4 : (xa == 4) = false := by simpa using h4
    by_cases h5 : xa = 5
    · rw [evOf_5 h5]
      have q5 : (xa == 5) = true := by simp [h5]
      clear h5 h4
      go_enter Tryz.func154, Tryz.ntmps154
      go_wp2
      exact bodyPost_ret (v := .agg #[.int .i64 1, .int .i64 xb, .int .i64 2]) (by simp [results, Tryz.results154, go_sem]) rfl ⟨rfl, by repeat (first | exact Below.refl _ _ | assumption | refine below_allocS ?_ _ | refine below_callS ?_ (by assumption) | (refine Below.alloc ?_ (by first | omega | (simp; done) | (simp; omega)) _) | (refine Below.setCell ?_ (by first | omega | (simp; done) | (simp; omega)) _) | refine Below.drew ?_ | refine below_drewN ?_ _ | (refine below_call ?_ (by assumption) (by first | omega | (simp; done) | (simp; omega))) | (refine Below.trans ?_ (by assumption)))⟩
    · have q5 : (xa == 5) = false := by simpa using h5
      by_cases h6 : xa = 6
      · rw [evOf_6 h6]
        have q6 : (xa == 6) = true := by simp [h6]
        clear h6 h5 h4
        go_enter Tryz.func154, Tryz.ntmps154
        go_wp2
        exact bodyPost_ret (v := .agg #[.int .i64 1, .int .i64 xb, .int .i64 3]) (by simp [results, Tryz.results154, go_sem]) rfl ⟨rfl, by repeat (first | exact Below.refl _ _ | assumption | refine below_allocS ?_ _ | refine below_callS ?_ (by assumption) | (refine Below.alloc ?_ (by first | omega | (simp; done) | (simp; omega)) _) | (refine Below.setCell ?_ (by first | omega | (simp; done) | (simp; omega)) _) | refine Below.drew ?_ | refine below_drewN ?_ _ | (refine below_call ?_ (by assumption) (by first | omega | (simp; done) | (simp; omega))) | (refine Below.trans ?_ (by assumption)))⟩
      · have q6 : (xa == 6) = false := by simpa using h6
        rw [evOf_0 h4 h5 h6]
        clear h6 h5 h4
        go_enter Tryz.func154, Tryz.ntmps154
        go_wp2
        exact bodyPost_ret (v := .agg #[.int .i64 0, .int .i64 xb, .int .i64 0]) (by simp [results, Tryz.results154, go_sem]) rfl ⟨rfl, by repeat (first | exact Below.refl _ _ | assumption | refine below_allocS ?_ _ | refine below_callS ?_ (by assumption) | (refine Below.alloc ?_ (by first | omega | (simp; done) | (simp; omega)) _) | (refine Below.setCell ?_ (by first | omega | (simp; done) | (simp; omega)) _) | refine Below.drew ?_ | refine below_drewN ?_ _ | (refine below_call ?_ (by assumption) (by first | omega | (simp; done) | (simp; omega))) | (refine Below.trans ?_ (by assumption)))⟩
set_option maxRecDepth 100000 in
set_option maxHeartbeats 2000000 in
theorem impl_EventsOfTrace {b bud : Int} {a s : Option Addr} {n c m d : Nat} {l tr : List Int} {sec : Bool} {w : World} (hT : Tab w 1 (strsCells ruleNm)) (hI : Ints w a n c l) (hS : Ints w s m d tr) (hn : n ≤ 1048576) (hm : m ≤ 1048576) :
    Calls Tryz.prog 101 #[.agg #[.int .i64 b, .slice a n c], .int .i64 bud, .bool sec, .slice s m d] w (EvRet 82 w (evL b l bud sec tr) (evC b l bud sec tr)) := by
  have HT := Lib.hid hT
  have k1 := fun (wx : World) (hb : Below w.heap.size w wx) => impl_rideCode (b := b) (bud := bud) (hI.keep hb) hn
  have hl := hI.len
  have hml := hS.len
  have HS := Lib.hid hS
  by_cases h0 : rdC b l bud = 0
  · obtain ⟨g1, g2, g3, g4, g5, g6⟩ := rdC_ok h0
    obtain ⟨B, rfl⟩ := Int.eq_ofNat_of_zero_le (show 0 ≤ b by omega)
    obtain ⟨D, rfl⟩ := Int.eq_ofNat_of_zero_le g5
    rw [h0] at k1
    have K1 := Lib.hid k1
    have k2 := fun (wx : World) (hb : Below w.heap.size w wx) => impl_rules (B := B) (bud := D) (n := n) (c := c) (a := a) (sec := sec) (w := wx) (HT.out.keep hb) (by omega) (by omega) (by omega) (by omega)
    have hX0 := rulesS_x n B D sec
    have hL0 : rdL (B : Int) l (D : Int) sec = kindsL n B D sec := by rw [rdL, hl]; rfl
    have hok := kindsL_ok (n := n) (B := B) (D := D) (sec := sec) (by omega) (by omega) (by omega)
    have hC : evC (B : Int) l (D : Int) sec tr = if 200 < m then 3 else if allIn 0 ((kindsL n B D sec).length - 1) tr = true then 0 else 4 := by rw [evC, if_pos h0, hL0, hml]
    have hX : evL (B : Int) l (D : Int) sec tr = if evC (B : Int) l (D : Int) sec tr = 0 then tr.map (fun r => evOf ((kindsL n B D sec).getD r.toNat ⟨0, 0, 0⟩)) else [] := by rw [evL, hL0]
    generalize evC (B : Int) l (D : Int) sec tr = C at *
    generalize evL (B : Int) l (D : Int) sec tr = Y at *
    generalize kindsL n B D sec = KL at *
    generalize rulesS n B D sec = S at *
    have HX0 := Lib.hid hX0
    have K2 := Lib.hid k2
    have HOK := Lib.hid hok
    have HC := Lib.hid hC
    have HX := Lib.hid hX
    clear k1 k2 hC hX hL0 h0 hI hl hS hok hX0 hT
    have hmu : (m : Int) ≤ 1048576 := by omega
    have B0 := Lib.hid (Blk.made w #[.int .i64 (B : Int), .slice a n c] 28)
    by_cases h2 : 200 < m
    · have hY : C = 3 := by rw [HC.out, if_pos h2]
      have hL : Y = [] := by rw [HX.out, hY]; rfl
      subst hL hY
      have h2' : (200 : Int) < (m : Int) := by omega
      clear HX HC
      go_enter Tryz.func101, Tryz.ntmps101
      go_wp2_with fail
      refine Calls.mono (K1.out _ (by repeat (first | exact Below.refl _ _ | assumption | refine below_allocS ?_ _ | refine below_callS ?_ (by assumption) | (refine Below.alloc ?_ (by first | omega | (simp; done) | (simp; omega)) _) | (refine Below.setCell ?_ (by first | omega | (simp; done) | (simp; omega)) _) | refine Below.drew ?_ | refine below_drewN ?_ _ | (refine below_call ?_ (by assumption) (by first | omega | (simp; done) | (simp; omega))) | (refine Below.trans ?_ (by assumption))))) ?_
      rintro e w1 ⟨rfl, hb_w1⟩
      obtain ⟨hc_w1, hf_w1⟩ := bcell hb_w1
      have hs_w1 := hb_w1.size
      go_wp2
      exact bodyPost_ret (v := .tuple #[.slice none 0 0, .int .i64 3]) (by simp [results, Tryz.results101, go_sem]) rfl ⟨_, _, _, rfl, by repeat (first | exact Below.refl _ _ | assumption | refine below_allocS ?_ _ | refine below_callS ?_ (by assumption) | (refine Below.alloc ?_ (by first | omega | (simp; done) | (simp; omega)) _) | (refine Below.setCell ?_ (by first | omega | (simp; done) | (simp; omega)) _) | refine Below.drew ?_ | refine below_drewN ?_ _ | (refine below_call ?_ (by assumption) (by first | omega | (simp; done) | (simp; omega))) | (refine Below.trans ?_ (by assumption))), OwnF.nilE _ _ (fun _ => rfl)⟩
    · have h2' : (m : Int) ≤ 200 := by omega
      have HC2 := Lib.hid (HC.out.trans (if_neg h2))
      clear HC
      go_enter Tryz.func101, Tryz.ntmps101
      go_wp2_with fail
      refine Calls.mono (K1.out _ (by repeat (first | exact Below.refl _ _ | assumption | refine below_allocS ?_ _ | refine below_callS ?_ (by assumption) | (refine Below.alloc ?_ (by first | omega | (simp; done) | (simp; omega)) _) | (refine Below.setCell ?_ (by first | omega | (simp; done) | (simp; omega)) _) | refine Below.drew ?_ | refine below_drewN ?_ _ | (refine below_call ?_ (by assumption) (by first | omega | (simp; done) | (simp; omega))) | (refine Below.trans ?_ (by assumption))))) ?_
      rintro e w1 ⟨rfl, hb_w1⟩
      obtain ⟨hc_w1, hf_w1⟩ := bcell hb_w1
      have hs_w1 := hb_w1.size
      simp at hs_w1
      have hz1 : w.heap.size < w1.heap.size := by omega
      have B1 := B0.out.keep hb_w1
      have u0 := B1.cell 0
      have u1 := B1.cell 1
      simp at u0 u1
      go_wp2_with fail
      refine Calls.mono (K2.out _ (by repeat (first | exact Below.refl _ _ | assumption | refine below_allocS ?_ _ | refine below_callS ?_ (by assumption) | (refine Below.alloc ?_ (by first | omega | (simp; done) | (simp; omega)) _) | (refine Below.setCell ?_ (by first | omega | (simp; done) | (simp; omega)) _) | refine Below.drew ?_ | refine below_drewN ?_ _ | (refine below_call ?_ (by assumption) (by first | omega | (simp; done) | (simp; omega))) | (refine Below.trans ?_ (by assumption))))) ?_
      rintro e w2 ⟨a2, p, c2, L, rfl, hR, hp, hb_w2⟩
      have hs_w2 := hb_w2.size
      have hlen := hR.own.len
      have hlk : KL.length = p := by rw [← hlen, ← HX0.out, List.length_map, hR.rds.len]
      have OK2 := Lib.hid hR.own.flats
      have R := Lib.hid hR.rds
      clear hR hlen
      have hm1 : IntKind.i64.wrap ((p : Int) - 1) = (p : Int) - 1 := IntWalk.i64_in _ (by omega)
      have HLK := Lib.hid hlk
      have HB2 : Below w.heap.size w w2 := by repeat (first | exact Below.refl _ _ | assumption | refine below_allocS ?_ _ | refine below_callS ?_ (by assumption) | (refine Below.alloc ?_ (by first | omega | (simp; done) | (simp; omega)) _) | (refine Below.setCell ?_ (by first | omega | (simp; done) | (simp; omega)) _) | refine Below.drew ?_ | refine below_drewN ?_ _ | (refine below_call ?_ (by assumption) (by first | omega | (simp; done) | (simp; omega))) | (refine Below.trans ?_ (by assumption)))
      clear hlk hb_w1 hc_w1 hf_w1 hb_w2 u0 u1 B1 B0
      rw [HLK.out] at HC2
      go_wp2_with fail
      go_loopw [12, 31] (fun so si wr => ∃ (a' : Option Addr) (c' i : Nat), so = .slice a' i c' ∧ si = .int .i64 i ∧ i ≤ m ∧ w2.heap.size ≤ wr.heap.size ∧ Below w2.heap.size w2 wr ∧ Hid (allIn 0 ((p : Int) - 1) (tr.take i) = true) ∧ Hid (OwnF 3 I3.enc I3.ok 82 wr w2.heap.size a' i c' ((tr.take i).map (fun r => evOf (KL.getD r.toNat ⟨0, 0, 0⟩))))) (fun _ si _ => m - (intOf si).toNat)
      case atStart => exact ⟨none, 0, 0, rfl, rfl, by omega, by omega, Below.refl _ _, Lib.hid (by rfl), Lib.hid (OwnF.nilE _ _ (fun _ => rfl))⟩
      case round =>
        obtain ⟨a', c', i, rfl, rfl, hi, hsr, hbl, A, O⟩ := hrel
        by_cases hlt : i < m
        · have hlt' : (i : Int) < (m : Int) := by omega
          have hi0 : (0 : Int) ≤ (i : Int) := by omega
          obtain ⟨b', off, x, rfl, hb', hx, hcell, hwf⟩ := (HS.out.keep (below_call HB2 hbl (by omega))).at hlt
          have Hx := Lib.hid hx
          clear hx
          cases hr : inB x 0 ((p : Int) - 1)
          · have HR := Lib.hid hr
            clear hr
            go_wp2_with fail
            refine Calls.mono (impl_length_rr) ?_
            rintro e _ ⟨rfl, rfl⟩
            go_wp2_with fail
            refine Calls.mono (impl_within) ?_
            rintro e _ ⟨rfl, rfl⟩
            rw [HR.out]
            have hA : allIn 0 ((p : Int) - 1) tr = false := all_take_false Hx.out HR.out
            have hY : C = 4 := by rw [HC2.out, hA]; rfl
            have hL : Y = [] := by rw [HX.out, hY]; rfl
            subst hL hY
            clear hA
            go_wp2
            exact bodyPost_ret (v := .tuple #[.slice none 0 0, .int .i64 4]) (by simp [results, Tryz.results101, go_sem]) rfl ⟨_, _, _, rfl, by repeat (first | exact Below.refl _ _ | assumption | refine below_allocS ?_ _ | refine below_callS ?_ (by assumption) | (refine Below.alloc ?_ (by first | omega | (simp; done) | (simp; omega)) _) | (refine Below.setCell ?_ (by first | omega | (simp; done) | (simp; omega)) _) | refine Below.drew ?_ | refine below_drewN ?_ _ | (refine below_call ?_ (by assumption) (by first | omega | (simp; done) | (simp; omega))) | (refine Below.trans ?_ (by assumption))), OwnF.nilE _ _ (fun _ => rfl)⟩
          · have HR := Lib.hid hr
            have hr2 := hr
            simp [inB] at hr2
            obtain ⟨q, rfl⟩ := Int.eq_ofNat_of_zero_le hr2.1
            clear hr
            have hq0 : (0 : Int) ≤ (q : Int) := by omega
            have hq1 : (q : Int) < (p : Int) := by omega
            obtain ⟨bb, off2, y, rfl, hbb, hx2, c0, c1, c2', c3, c4, c5⟩ := F6.get (OK2.out.keep hbl) (i := q) (by omega)
            have hy := R.out.get HX0.out hx2
            clear hx2
            have HY := Lib.hid (show KL.getD (q : Int).toNat ⟨0, 0, 0⟩ = y.x by rw [Int.toNat_natCast, List.getD_eq_getElem?_getD, hy]; rfl)
            have hyo : (y.x).ok := HOK.out _ (List.mem_of_getElem? hy)
            have hyb : I64 (y.x).b := hyo.2.1
            clear hy
            go_wp2_with fail
            refine Calls.mono (impl_length_rr) ?_
            rintro e _ ⟨rfl, rfl⟩
            go_wp2_with fail
            refine Calls.mono (impl_within) ?_
            rintro e _ ⟨rfl, rfl⟩
            rw [HR.out]
            go_wp2_with fail
            refine Calls.mono (impl_event (y := y) hyo) ?_
            rintro e w5 ⟨rfl, hb5⟩
            have hs5 := hb5.size
            have hev := evOf_ok hyo
            go_wp2_with (at_builtin; refine appK3 rfl _ _ rfl Tryz.underlying68 Tryz.infoEv rfl (by decide) w2.heap.size _ _ _ _ (O.out.keep (by repeat (first | exact Below.refl _ _ | assumption | refine below_allocS ?_ _ | refine below_callS ?_ (by assumption) | (refine Below.alloc ?_ (by first | omega | (simp; done) | (simp; omega)) _) | (refine Below.setCell ?_ (by first | omega | (simp; done) | (simp; omega)) _) | refine Below.drew ?_ | refine below_drewN ?_ _ | (refine below_call ?_ (by assumption) (by first | omega | (simp; done) | (simp; omega))) | (refine Below.trans ?_ (by assumption))))) rfl _ rfl (by first | rfl | (simp; done)) hev.1 hev.2.1 hev.2.2 (by omega) (by (try simp); omega) ?_; intro a2 c2 wn ho hb; have O := Lib.hid ho; have hsn := hb.size; have hbl := Below.trans (show Below w2.heap.size w2 _ by repeat (first | exact Below.refl _ _ | assumption | refine below_allocS ?_ _ | refine below_callS ?_ (by assumption) | (refine Below.alloc ?_ (by first | omega | (simp; done) | (simp; omega)) _) | (refine Below.setCell ?_ (by first | omega | (simp; done) | (simp; omega)) _) | refine Below.drew ?_ | refine below_drewN ?_ _ | (refine below_call ?_ (by assumption) (by first | omega | (simp; done) | (simp; omega))) | (refine Below.trans ?_ (by assumption)))) hb; clear ho hb)
            go_roundw
            case rel => exact ⟨_, _, i + 1, rfl, by go_num, by omega, by (try simp at hsn); omega, hbl, Lib.hid (all_take_step Hx.out A.out HR.out), by show _; rw [map_take_snoc _ Hx.out, HY.out]; exact O⟩
            case measure => simp [intOf]; omega
        · obtain rfl : m = i := by omega
          have hlt' : ¬ (m : Int) < (m : Int) := by omega
          have hA := A.out
          rw [take_len hml] at hA
          have hY : C = 0 := by rw [HC2.out, hA]; rfl
          have hL : Y = tr.map (fun r => evOf (KL.getD r.toNat ⟨0, 0, 0⟩)) := by rw [HX.out, hY]; rfl
          have HL := Lib.hid hL
          clear hL hA
          subst hY
          go_wp2
          exact bodyPost_ret (v := .tuple #[.slice a' m c', .int .i64 0]) (by simp [results, Tryz.results101, go_sem]) rfl ⟨_, _, _, rfl, by repeat (first | exact Below.refl _ _ | assumption | refine below_allocS ?_ _ | refine below_callS ?_ (by assumption) | (refine Below.alloc ?_ (by first | omega | (simp; done) | (simp; omega)) _) | (refine Below.setCell ?_ (by first | omega | (simp; done) | (simp; omega)) _) | refine Below.drew ?_ | refine below_drewN ?_ _ | (refine below_call ?_ (by assumption) (by first | omega | (simp; done) | (simp; omega))) | (refine Below.trans ?_ (by assumption))), by have h := O.out.le (show w.heap.size ≤ w2.heap.size by omega); rw [take_len hml] at h; rw [HL.out]; exact h⟩
  · have hC : evC b l bud sec tr = rdC b l bud := by rw [evC, if_neg h0]
    have hX : evL b l bud sec tr = [] := by rw [evL, hC, if_neg h0]
    rw [hC, hX]
    generalize rdC b l bud = C at *
    have K1 := Lib.hid k1
    have hC' : (C != 0) = true := by simpa using h0
    clear k1 hC hX h0 hI hl hS hml
    go_enter Tryz.func101, Tryz.ntmps101
    go_wp2_with fail
    refine Calls.mono (K1.out _ (by repeat (first | exact Below.refl _ _ | assumption | refine below_allocS ?_ _ | refine below_callS ?_ (by assumption) | (refine Below.alloc ?_ (by first | omega | (simp; done) | (simp; omega)) _) | (refine Below.setCell ?_ (by first | omega | (simp; done) | (simp; omega)) _) | refine Below.drew ?_ | refine below_drewN ?_ _ | (refine below_call ?_ (by assumption) (by first | omega | (simp; done) | (simp; omega))) | (refine Below.trans ?_ (by assumption))))) ?_
    rintro e w1 ⟨rfl, hb_w1⟩
    obtain ⟨hc_w1, hf_w1⟩ := bcell hb_w1
    have hs_w1 := hb_w1.size
    go_wp2
    exact bodyPost_ret (v := .tuple #[.slice none 0 0, .int .i64 C]) (by simp [results, Tryz.results101, go_sem]) rfl ⟨_, _, _, rfl, by repeat (first | exact Below.refl _ _ | assumption | refine below_allocS ?_ _ | refine below_callS ?_ (by assumption) | (refine Below.alloc ?_ (by first | omega | (simp; done) | (simp; omega)) _) | (refine Below.setCell ?_ (by first | omega | (simp; done) | (simp; omega)) _) | refine Below.drew ?_ | refine below_drewN ?_ _ | (refine below_call ?_ (by assumption) (by first | omega | (simp; done) | (simp; omega))) | (refine Below.trans ?_ (by assumption))), OwnF.nilE _ _ (fun _ => rfl)⟩
set_option maxRecDepth 100000 in
set_option maxHeartbeats 2000000 in
theorem spec_EventsOfTrace {b bud : Int} {a s : Option Addr} {n c m d : Nat} {l tr : List Int} {sec : Bool} {w : World} (hI : Ints w a n c l) (hS : Ints w s m d tr) (hn : n ≤ 1048576) (hm : m ≤ 1048576) :
    Calls Tryz.prog 100 #[.agg #[.int .i64 b, .slice a n c], .int .i64 bud, .bool sec, .slice s m d] w (EvRet 82 w (evL b l bud sec tr) (evC b l bud sec tr)) := by
  have k1 := fun (wx : World) (hb : Below w.heap.size w wx) => spec_l24Code (b := b) (bud := bud) (hI.keep hb) hn
  have hl := hI.len
  have hml := hS.len
  have HS := Lib.hid hS
  by_cases h0 : rdC b l bud = 0
  · obtain ⟨g1, g2, g3, g4, g5, g6⟩ := rdC_ok h0
    obtain ⟨B, rfl⟩ := Int.eq_ofNat_of_zero_le (show 0 ≤ b by omega)
    obtain ⟨D, rfl⟩ := Int.eq_ofNat_of_zero_le g5
    rw [h0] at k1
    have K1 := Lib.hid k1
    have k2 := fun (wx : World) => spec_l24Kinds (B := B) (bud := D) (n := n) (c := c) (a := a) (sec := sec) (w := wx) (by omega) (by omega) (by omega)
    have hL0 : rdL (B : Int) l (D : Int) sec = kindsL n B D sec := by rw [rdL, hl]; rfl
    have hok := kindsL_ok (n := n) (B := B) (D := D) (sec := sec) (by omega) (by omega) (by omega)
    have hC : evC (B : Int) l (D : Int) sec tr = if 200 < m then 3 else if allIn 0 ((kindsL n B D sec).length - 1) tr = true then 0 else 4 := by rw [evC, if_pos h0, hL0, hml]
    have hX : evL (B : Int) l (D : Int) sec tr = if evC (B : Int) l (D : Int) sec tr = 0 then tr.map (fun r => evOf ((kindsL n B D sec).getD r.toNat ⟨0, 0, 0⟩)) else [] := by rw [evL, hL0]
    generalize evC (B : Int) l (D : Int) sec tr = C at *
    generalize evL (B : Int) l (D : Int) sec tr = Y at *
    generalize kindsL n B D sec = KL at *
    have K2 := Lib.hid k2
    have HOK := Lib.hid hok
    have HC := Lib.hid hC
    have HX := Lib.hid hX
    clear k1 k2 hC hX hL0 h0 hI hl hS hok
    have hmu : (m : Int) ≤ 1048576 := by omega
    have B0 := Lib.hid (Blk.made w #[.int .i64 (B : Int), .slice a n c] 28)
    by_cases h2 : 200 < m
    · have hY : C = 3 := by rw [HC.out, if_pos h2]
      have hL : Y = [] := by rw [HX.out, hY]; rfl
      subst hL hY
      have h2' : (200 : Int) < (m : Int) := by omega
      clear HX HC
      go_enter Tryz.func100, Tryz.ntmps100
      go_wp2_with fail
      refine Calls.mono (K1.out _ (by repeat (first | exact Below.refl _ _ | assumption | refine below_allocS ?_ _ | refine below_callS ?_ (by assumption) | (refine Below.alloc ?_ (by first | omega | (simp; done) | (simp; omega)) _) | (refine Below.setCell ?_ (by first | omega | (simp; done) | (simp; omega)) _) | refine Below.drew ?_ | refine below_drewN ?_ _ | (refine below_call ?_ (by assumption) (by first | omega | (simp; done) | (simp; omega))) | (refine Below.trans ?_ (by assumption))))) ?_
      rintro e w1 ⟨rfl, hb_w1⟩
      obtain ⟨hc_w1, hf_w1⟩ := bcell hb_w1
      have hs_w1 := hb_w1.size
      go_wp2
      exact bodyPost_ret (v := .tuple #[.slice none 0 0, .int .i64 3]) (by simp [results, Tryz.results100, go_sem]) rfl ⟨_, _, _, rfl, by repeat (first | exact Below.refl _ _ | assumption | refine below_allocS ?_ _ | refine below_callS ?_ (by assumption) | (refine Below.alloc ?_ (by first | omega | (simp; done) | (simp; omega)) _) | (refine Below.setCell ?_ (by first | omega | (simp; done) | (simp; omega)) _) | refine Below.drew ?_ | refine below_drewN ?_ _ | (refine below_call ?_ (by assumption) (by first | omega | (simp; done) | (simp; omega))) | (refine Below.trans ?_ (by assumption))), OwnF.nilE _ _ (fun _ => rfl)⟩
    · have h2' : (m : Int) ≤ 200 := by omega
      have HC2 := Lib.hid (HC.out.trans (if_neg h2))
      clear HC
      go_enter Tryz.func100, Tryz.ntmps100
      go_wp2_with fail
      refine Calls.mono (K1.out _ (by repeat (first | exact Below.refl _ _ | assumption | refine below_allocS ?_ _ | refine below_callS ?_ (by assumption) | (refine Below.alloc ?_ (by first | omega | (simp; done) | (simp; omega)) _) | (refine Below.setCell ?_ (by first | omega | (simp; done) | (simp; omega)) _) | refine Below.drew ?_ | refine below_drewN ?_ _ | (refine below_call ?_ (by assumption) (by first | omega | (simp; done) | (simp; omega))) | (refine Below.trans ?_ (by assumption))))) ?_
      rintro e w1 ⟨rfl, hb_w1⟩
      obtain ⟨hc_w1, hf_w1⟩ := bcell hb_w1
      have hs_w1 := hb_w1.size
      simp at hs_w1
      have hz1 : w.heap.size < w1.heap.size := by omega
      have B1 := B0.out.keep hb_w1
      have u0 := B1.cell 0
      have u1 := B1.cell 1
      simp at u0 u1
      go_wp2_with fail
      refine Calls.mono (K2.out _) ?_
      rintro e w2 ⟨a2, p, c2, rfl, ho, hp, hb_w2⟩
      have hs_w2 := hb_w2.size
      have hlk := ho.len
      have OK2 := Lib.hid ho.flats
      clear ho
      have hm1 : IntKind.i64.wrap ((p : Int) - 1) = (p : Int) - 1 := IntWalk.i64_in _ (by omega)
      have HLK := Lib.hid hlk
      have HB2 : Below w.heap.size w w2 := by repeat (first | exact Below.refl _ _ | assumption | refine below_allocS ?_ _ | refine below_callS ?_ (by assumption) | (refine Below.alloc ?_ (by first | omega | (simp; done) | (simp; omega)) _) | (refine Below.setCell ?_ (by first | omega | (simp; done) | (simp; omega)) _) | refine Below.drew ?_ | refine below_drewN ?_ _ | (refine below_call ?_ (by assumption) (by first | omega | (simp; done) | (simp; omega))) | (refine Below.trans ?_ (by assumption)))
      clear hlk hb_w1 hc_w1 hf_w1 hb_w2 u0 u1 B1 B0
      rw [HLK.out] at HC2
      go_wp2_with fail
      have OE := Lib.hid (OwnF.emp (k := 3) (E := 82) (enc := I3.enc) (ok := I3.ok) (base := w2.heap.size) w2 (by omega) (fun _ => rfl))
      go_loopw [12, 13] (fun so si wr => ∃ (a' : Option Addr) (c' i : Nat), so = .slice a' i c' ∧ si = .int .i64 i ∧ i ≤ m ∧ w2.heap.size ≤ wr.heap.size ∧ Below w2.heap.size w2 wr ∧ Hid (allIn 0 ((p : Int) - 1) (tr.take i) = true) ∧ Hid (OwnF 3 I3.enc I3.ok 82 wr w2.heap.size a' i c' ((tr.take i).map (fun r => evOf (KL.getD r.toNat ⟨0, 0, 0⟩))))) (fun _ si _ => m - (intOf si).toNat)
      case atStart => exact ⟨_, 0, 0, rfl, rfl, by omega, by simp, by repeat (first | exact Below.refl _ _ | assumption | refine below_allocS ?_ _ | refine below_callS ?_ (by assumption) | (refine Below.alloc ?_ (by first | omega | (simp; done) | (simp; omega)) _) | (refine Below.setCell ?_ (by first | omega | (simp; done) | (simp; omega)) _) | refine Below.drew ?_ | refine below_drewN ?_ _ | (refine below_call ?_ (by assumption) (by first | omega | (simp; done) | (simp; omega))) | (refine Below.trans ?_ (by assumption))), Lib.hid (by rfl), OE⟩
      case round =>
        clear OE
        obtain ⟨a', c', i, rfl, rfl, hi, hsr, hbl, A, O⟩ := hrel
        by_cases hlt : i < m
        · have hlt' : (i : Int) < (m : Int) := by omega
          have hi0 : (0 : Int) ≤ (i : Int) := by omega
          obtain ⟨b', off, x, rfl, hb', hx, hcell, hwf⟩ := (HS.out.keep (below_call HB2 hbl (by omega))).at hlt
          have Hx := Lib.hid hx
          clear hx
          cases hr : inB x 0 ((p : Int) - 1)
          · have HR := Lib.hid hr
            clear hr
            go_wp2_with fail
            refine Calls.mono (spec_l01In) ?_
            rintro e _ ⟨rfl, rfl⟩
            rw [HR.out]
            have hA : allIn 0 ((p : Int) - 1) tr = false := all_take_false Hx.out HR.out
            have hY : C = 4 := by rw [HC2.out, hA]; rfl
            have hL : Y = [] := by rw [HX.out, hY]; rfl
            subst hL hY
            clear hA
            go_wp2
            exact bodyPost_ret (v := .tuple #[.slice none 0 0, .int .i64 4]) (by simp [results, Tryz.results100, go_sem]) rfl ⟨_, _, _, rfl, by repeat (first | exact Below.refl _ _ | assumption | refine below_allocS ?_ _ | refine below_callS ?_ (by assumption) | (refine Below.alloc ?_ (by first | omega | (simp; done) | (simp; omega)) _) | (refine Below.setCell ?_ (by first | omega | (simp; done) | (simp; omega)) _) | refine Below.drew ?_ | refine below_drewN ?_ _ | (refine below_call ?_ (by assumption) (by first | omega | (simp; done) | (simp; omega))) | (refine Below.trans ?_ (by assumption))), OwnF.nilE _ _ (fun _ => rfl)⟩
          · have HR := Lib.hid hr
            have hr2 := hr
            simp [inB] at hr2
            obtain ⟨q, rfl⟩ := Int.eq_ofNat_of_zero_le hr2.1
            clear hr
            have hq0 : (0 : Int) ≤ (q : Int) := by omega
            have hq1 : (q : Int) < (p : Int) := by omega
            obtain ⟨bb, off2, y, rfl, hbb, hy, hwf2, c0, c1, c2'⟩ := F3.get (OK2.out.keep hbl) (i := q) (by omega)
            have HY := Lib.hid (show KL.getD (q : Int).toNat ⟨0, 0, 0⟩ = y by rw [Int.toNat_natCast, List.getD_eq_getElem?_getD, hy]; rfl)
            have hyo : (y).ok := HOK.out _ (List.mem_of_getElem? hy)
            have hyb : I64 (y).b := hyo.2.1
            clear hy
            go_wp2_with fail
            refine Calls.mono (spec_l01In) ?_
            rintro e _ ⟨rfl, rfl⟩
            rw [HR.out]
            by_cases h4 : y.a = 4
            · have q4 : (y.a == 4) = true := by simp [h4]
              have EV := Lib.hid (evOf_4 h4)
              clear h4
              go_wp2_with (at_builtin; refine appK3 rfl _ _ rfl Tryz.underlying68 Tryz.infoEv rfl (by decide) w2.heap.size _ _ _ _ (O.out.keep (by repeat (first | exact Below.refl _ _ | assumption | refine below_allocS ?_ _ | refine below_callS ?_ (by assumption) | (refine Below.alloc ?_ (by first | omega | (simp; done) | (simp; omega)) _) | (refine Below.setCell ?_ (by first | omega | (simp; done) | (simp; omega)) _) | refine Below.drew ?_ | refine below_drewN ?_ _ | (refine below_call ?_ (by assumption) (by first | omega | (simp; done) | (simp; omega))) | (refine Below.trans ?_ (by assumption))))) rfl _ rfl (by first | rfl | (simp; done)) (by first | assumption | decide | (unfold I64; omega)) hyb (by first | assumption | decide | (unfold I64; omega)) (by omega) (by (try simp); omega) ?_; intro a2 c2 wn ho hb; have O := Lib.hid ho; have hsn := hb.size; have hbl := Below.trans (show Below w2.heap.size w2 _ by repeat (first | exact Below.refl _ _ | assumption | refine below_allocS ?_ _ | refine below_callS ?_ (by assumption) | (refine Below.alloc ?_ (by first | omega | (simp; done) | (simp; omega)) _) | (refine Below.setCell ?_ (by first | omega | (simp; done) | (simp; omega)) _) | refine Below.drew ?_ | refine below_drewN ?_ _ | (refine below_call ?_ (by assumption) (by first | omega | (simp; done) | (simp; omega))) | (refine Below.trans ?_ (by assumption)))) hb; clear ho hb)
              go_roundw
              case rel => exact ⟨_, _, i + 1, rfl, by go_num, by omega, by (try simp at hsn); omega, hbl, Lib.hid (all_take_step Hx.out A.out HR.out), by show _; rw [map_take_snoc _ Hx.out, HY.out, EV.out]; exact O⟩
              case measure => simp [intOf]; omega
            · have q4 : (y.a == 4) = false := by simpa using h4
              by_cases h5 : y.a = 5
              · have q5 : (y.a == 5) = true := by simp [h5]
                have EV := Lib.hid (evOf_5 h5)
                clear h5 h4
                go_wp2_with (at_builtin; refine appK3 rfl _ _ rfl Tryz.underlying68 Tryz.infoEv rfl (by decide) w2.heap.size _ _ _ _ (O.out.keep (by repeat (first | exact Below.refl _ _ | assumption | refine below_allocS ?_ _ | refine below_callS ?_ (by assumption) | (refine Below.alloc ?_ (by first | omega | (simp; done) | (simp; omega)) _) | (refine Below.setCell ?_ (by first | omega | (simp; done) | (simp; omega)) _) | refine Below.drew ?_ | refine below_drewN ?_ _ | (refine below_call ?_ (by assumption) (by first | omega | (simp; done) | (simp; omega))) | (refine Below.trans ?_ (by assumption))))) rfl _ rfl (by first | rfl | (simp; done)) (by first | assumption | decide | (unfold I64; omega)) hyb (by first | assumption | decide | (unfold I64; omega)) (by omega) (by (try simp); omega) ?_; intro a2 c2 wn ho hb; have O := Lib.hid ho; have hsn := hb.size; have hbl := Below.trans (show Below w2.heap.size w2 _ by repeat (first | exact Below.refl _ _ | assumption | refine below_allocS ?_ _ | refine below_callS ?_ (by assumption) | (refine Below.alloc ?_ (by first | omega | (simp; done) | (simp; omega)) _) | (refine Below.setCell ?_ (by first | omega | (simp; done) | (simp; omega)) _) | refine Below.drew ?_ | refine below_drewN ?_ _ | (refine below_call ?_ (by assumption) (by first | omega | (simp; done) | (simp; omega))) | (refine Below.trans ?_ (by assumption)))) hb; clear ho hb)
                go_roundw
                case rel => exact ⟨_, _, i + 1, rfl, by go_num, by omega, by (try simp at hsn); omega, hbl, Lib.hid (all_take_step Hx.out A.out HR.out), by show _; rw [map_take_snoc _ Hx.out, HY.out, EV.out]; exact O⟩
                case measure => simp [intOf]; omega
              · have q5 : (y.a == 5) = false := by simpa using h5
                by_cases h6 : y.a = 6
                · have q6 : (y.a == 6) = true := by simp [h6]
                  have EV := Lib.hid (evOf_6 h6)
                  clear h6 h5 h4
                  go_wp2_with (at_builtin; refine appK3 rfl _ _ rfl Tryz.underlying68 Tryz.infoEv rfl (by decide) w2.heap.size _ _ _ _ (O.out.keep (by repeat (first | exact Below.refl _ _ | assumption | refine below_allocS ?_ _ | refine below_callS ?_ (by assumption) | (refine Below.alloc ?_ (by first | omega | (simp; done) | (simp; omega)) _) | (refine Below.setCell ?_ (by first | omega | (simp; done) | (simp; omega)) _) | refine Below.drew ?_ | refine below_drewN ?_ _ | (refine below_call ?_ (by assumption) (by first | omega | (simp; done) | (simp; omega))) | (refine Below.trans ?_ (by assumption))))) rfl _ rfl (by first | rfl | (simp; done)) (by first | assumption | decide | (unfold I64; omega)) hyb (by first | assumption | decide | (unfold I64; omega)) (by omega) (by (try simp); omega) ?_; intro a2 c2 wn ho hb; have O := Lib.hid ho; have hsn := hb.size; have hbl := Below.trans (show Below w2.heap.size w2 _ by repeat (first | exact Below.refl _ _ | assumption | refine below_allocS ?_ _ | refine below_callS ?_ (by assumption) | (refine Below.alloc ?_ (by first | omega | (simp; done) | (simp; omega)) _) | (refine Below.setCell ?_ (by first | omega | (simp; done) | (simp; omega)) _) | refine Below.drew ?_ | refine below_drewN ?_ _ | (refine below_call ?_ (by assumption) (by first | omega | (simp; done) | (simp; omega))) | (refine Below.trans ?_ (by assumption)))) hb; clear ho hb)
                  go_roundw
                  case rel => exact ⟨_, _, i + 1, rfl, by go_num, by omega, by (try simp at hsn); omega, hbl, Lib.hid (all_take_step Hx.out A.out HR.out), by show _; rw [map_take_snoc _ Hx.out, HY.out, EV.out]; exact O⟩
                  case measure => simp [intOf]; omega
                · have q6 : (y.a == 6) = false := by simpa using h6
                  have EV := Lib.hid (evOf_0 h4 h5 h6)
                  clear h6 h5 h4
                  go_wp2_with (at_builtin; refine appK3 rfl _ _ rfl Tryz.underlying68 Tryz.infoEv rfl (by decide) w2.heap.size _ _ _ _ (O.out.keep (by repeat (first | exact Below.refl _ _ | assumption | refine below_allocS ?_ _ | refine below_callS ?_ (by assumption) | (refine Below.alloc ?_ (by first | omega | (simp; done) | (simp; omega)) _) | (refine Below.setCell ?_ (by first | omega | (simp; done) | (simp; omega)) _) | refine Below.drew ?_ | refine below_drewN ?_ _ | (refine below_call ?_ (by assumption) (by first | omega | (simp; done) | (simp; omega))) | (refine Below.trans ?_ (by assumption))))) rfl _ rfl (by first | rfl | (simp; done)) (by first | assumption | decide | (unfold I64; omega)) hyb (by first | assumption | decide | (unfold I64; omega)) (by omega) (by (try simp); omega) ?_; intro a2 c2 wn ho hb; have O := Lib.hid ho; have hsn := hb.size; have hbl := Below.trans (show Below w2.heap.size w2 _ by repeat (first | exact Below.refl _ _ | assumption | refine below_allocS ?_ _ | refine below_callS ?_ (by assumption) | (refine Below.alloc ?_ (by first | omega | (simp; done) | (simp; omega)) _) | (refine Below.setCell ?_ (by first | omega | (simp; done) | (simp; omega)) _) | refine Below.drew ?_ | refine below_drewN ?_ _ | (refine below_call ?_ (by assumption) (by first | omega | (simp; done) | (simp; omega))) | (refine Below.trans ?_ (by assumption)))) hb; clear ho hb)
                  go_roundw
                  case rel => exact ⟨_, _, i + 1, rfl, by go_num, by omega, by (try simp at hsn); omega, hbl, Lib.hid (all_take_step Hx.out A.out HR.out), by show _; rw [map_take_snoc _ Hx.out, HY.out, EV.out]; exact O⟩
                  case measure => simp [intOf]; omega
        · obtain rfl : m = i := by omega
          have hlt' : ¬ (m : Int) < (m : Int) := by omega
          have hA := A.out
          rw [take_len hml] at hA
          have hY : C = 0 := by rw [HC2.out, hA]; rfl
          have hL : Y = tr.map (fun r => evOf (KL.getD r.toNat ⟨0, 0, 0⟩)) := by rw [HX.out, hY]; rfl
          have HL := Lib.hid hL
          clear hL hA
          subst hY
          go_wp2
          exact bodyPost_ret (v := .tuple #[.slice a' m c', .int .i64 0]) (by simp [results, Tryz.results100, go_sem]) rfl ⟨_, _, _, rfl, by repeat (first | exact Below.refl _ _ | assumption | refine below_allocS ?_ _ | refine below_callS ?_ (by assumption) | (refine Below.alloc ?_ (by first | omega | (simp; done) | (simp; omega)) _) | (refine Below.setCell ?_ (by first | omega | (simp; done) | (simp; omega)) _) | refine Below.drew ?_ | refine below_drewN ?_ _ | (refine below_call ?_ (by assumption) (by first | omega | (simp; done) | (simp; omega))) | (refine Below.trans ?_ (by assumption))), by have h := O.out.le (show w.heap.size ≤ w2.heap.size by omega); rw [take_len hml] at h; rw [HL.out]; exact h⟩
  · have hC : evC b l bud sec tr = rdC b l bud := by rw [evC, if_neg h0]
    have hX : evL b l bud sec tr = [] := by rw [evL, hC, if_neg h0]
    rw [hC, hX]
    generalize rdC b l bud = C at *
    have K1 := Lib.hid k1
    have hC' : (C != 0) = true := by simpa using h0
    clear k1 hC hX h0 hI hl hS hml
    go_enter Tryz.func100, Tryz.ntmps100
    go_wp2_with fail
    refine Calls.mono (K1.out _ (by repeat (first | exact Below.refl _ _ | assumption | refine below_allocS ?_ _ | refine below_callS ?_ (by assumption) | (refine Below.alloc ?_ (by first | omega | (simp; done) | (simp; omega)) _) | (refine Below.setCell ?_ (by first | omega | (simp; done) | (simp; omega)) _) | refine Below.drew ?_ | refine below_drewN ?_ _ | (refine below_call ?_ (by assumption) (by first | omega | (simp; done) | (simp; omega))) | (refine Below.trans ?_ (by assumption))))) ?_
    rintro e w1 ⟨rfl, hb_w1⟩
    obtain ⟨hc_w1, hf_w1⟩ := bcell hb_w1
    have hs_w1 := hb_w1.size
    go_wp2
    exact bodyPost_ret (v := .tuple #[.slice none 0 0, .int .i64 C]) (by simp [results, Tryz.results100, go_sem]) rfl ⟨_, _, _, rfl, by repeat (first | exact Below.refl _ _ | assumption | refine below_allocS ?_ _ | refine below_callS ?_ (by assumption) | (refine Below.alloc ?_ (by first | omega | (simp; done) | (simp; omega)) _) | (refine Below.setCell ?_ (by first | omega | (simp; done) | (simp; omega)) _) | refine Below.drew ?_ | refine below_drewN ?_ _ | (refine below_call ?_ (by assumption) (by first | omega | (simp; done) | (simp; omega))) | (refine Below.trans ?_ (by assumption))), OwnF.nilE _ _ (fun _ => rfl)⟩
end Go.Proofs.YtccnpeggnhbpjaaGreatDoor
