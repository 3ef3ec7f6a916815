/- Draws of models, walked: also one with very many states, and one that is not small. -/
import Derived.Test.YtcnjnkjnpfpaeaaDm
namespace Go.Proofs.Ytcnjnkjnpfpaeaa
open Go.RowKit
set_option linter.unusedVariables false
set_option linter.unusedSimpArgs false
attribute [local go_sem ↓] Go.wp_at_zero Go.wp_at_succ
theorem RRow.nil (w : World) (lo : Nat) : RRow w lo none 0 0 [] := ⟨OwnF.nil (enc := encR) (ok := fun _ => True) (fun _ => rfl) _ _ _, fun x hx => by cases hx⟩
theorem own_litL {w : World} {T : TypeId} {base m : Nat} (l : List Int) (cs : Array Value) (hb : base ≤ w.heap.size) (hm : l.length = m) (h9 : m ≤ 1048576) (hl : ∀ x ∈ l, I64 x) (hc : cs = (l.map (Value.int .i64)).toArray) : OwnI T (w.alloc (.cells cs T)) base (some ⟨w.heap.size, 0, none⟩) m m l :=
  OwnF.i1 (OwnF.lit w l hb hm h9 (fun _ => rfl) hl (by rw [hc, flat_enc1]))
/-- the result's variable is written whole and the model handed back -/
theorem DrM.out {lo b r : Nat} {w0 w : World} {sa ta ra : Option Addr} {sn sc tn tc rn rc : Nat} {sz st : List Int} {l : List (RM × RuD)} {v0 v1 v2 : Value} {B : Nat} (hd : Dw 55 lo b w0 w) (hs : OwnI 2 w B sa sn sc sz) (ht : OwnI 2 w B ta tn tc st) (hr : RRow w B ra rn rc l) (hB : r < B) (hr0 : w0.heap.size ≤ r) (h1 : 1 ≤ sn) (h5 : sn ≤ 5) (ht5 : tn ≤ 5) (hr3 : rn ≤ 300) :
    DrM lo b w0 (.returned (.agg #[.slice sa sn sc, .slice ta tn tc, .slice ra rn rc])) (((w.setCell ⟨r, 0, none⟩ (.slice sa sn sc)).setCell ⟨r, 1, none⟩ (.slice ta tn tc)).setCell ⟨r, 2, none⟩ (.slice ra rn rc)) := by
  have hon : Only r (r + 1) w (((w.setCell ⟨r, 0, none⟩ (.slice sa sn sc)).setCell ⟨r, 1, none⟩ (.slice ta tn tc)).setCell ⟨r, 2, none⟩ (.slice ra rn rc)) := (((Only.refl r (r + 1) w).set ⟨Nat.le_refl _, Nat.lt_succ_self _⟩ 0 _).set ⟨Nat.le_refl _, Nat.lt_succ_self _⟩ 1 _).set ⟨Nat.le_refl _, Nat.lt_succ_self _⟩ 2 _
  exact ⟨sa, ta, ra, sn, sc, tn, tc, rn, rc, sz, st, l, rfl, (hs.only hon fun g e => .inr (by have := (hs.blk g e).1; omega)).le (by omega), (ht.only hon fun g e => .inr (by have := (ht.blk g e).1; omega)).le (by omega), (hr.only hon (by omega)).le (by omega), h1, h5, ht5, hr3, ((hd.set hr0 0 _).set hr0 1 _).set hr0 2 _⟩
set_option maxRecDepth 100000 in
set_option maxHeartbeats 8000000 in
theorem spec_l21Draw {b lo : Nat} {w0 w : World} (hD : Dw 55 lo b w0 w) :
    Calls Try.prog 36 #[.pointer (some ⟨b, 0, none⟩)] w (DrM lo b w) := by
  have hbl := hD.src.lt.2
  have HS := Lib.hid hD.start
  clear hD
  go_enter Try.func36, Try.ntmps36
  go_wp2_with fail
  obtain ⟨wA, hwA⟩ : ∃ v, v = w.alloc (.cells #[.slice none 0 0, .slice none 0 0, .slice none 0 0] 27) := ⟨_, rfl⟩
  have hbA : Below w.heap.size w wA := by rw [hwA]; exact below_alloc1 (Below.refl _ _) _
  have hsA : wA.heap.size = w.heap.size + 1 := by rw [hwA]; exact Array.size_push _
  have X0 := Lib.hid (show Blk wA w.heap.size #[.slice none 0 0, .slice none 0 0, .slice none 0 0] 27 by rw [hwA]; exact Blk.made w _ _)
  have D0 := Lib.hid (HS.out.below hbA)
  rw [← hwA]
  clear hwA hbA HS
  refine Calls.mono (dw_next (b := b) (lo := lo) D0.out.src (by decide)) ?_
  rintro e w1 ⟨y, rfl, hy0, hy1, hd⟩
  have hs1 := hd.size
  have D1 := Lib.hid (D0.out.trans hd)
  have X1 := Lib.hid (X0.out.dw hd (by omega))
  clear hd D0 X0 hy1
  by_cases hy : y = 0
  · subst hy
    go_wp2_with fail
    obtain ⟨wB, hwB⟩ : ∃ v, v = (((w1.alloc (.cells #[.int .i64 16, .int .i64 16, .int .i64 16] 2)).alloc (.cells #[.int .i64 8, .int .i64 8, .int .i64 8] 2)).alloc (.cells #[.int .i64 20, .int .i64 20, .int .i64 10] 2)).alloc (.cells #[.slice (some ⟨w1.heap.size, 0, none⟩) 3 3, .slice (some ⟨w1.heap.size + 1, 0, none⟩) 3 3, .slice (some ⟨w1.heap.size + 2, 0, none⟩) 3 3] 24) := ⟨_, rfl⟩
    have hbA : ∀ (wx : World) (o : Obj), Below wx.heap.size wx (wx.alloc o) := fun wx o => below_alloc1 (Below.refl _ _) _
    have hbB : Below w1.heap.size w1 wB := by rw [hwB]; exact below_alloc1 (below_alloc1 (below_alloc1 (hbA _ _) _) _) _
    have A0 := Lib.hid (show OwnI 2 wB (w.heap.size + 1) (some ⟨w1.heap.size, 0, none⟩) 3 3 [16, 16, 16] by
      rw [hwB]
      exact (((own_litL [16, 16, 16] _ (by omega) rfl (by decide) (by decide) rfl).keep (hbA _ _)).keep (hbA _ _)).keep (hbA _ _))
    have A1 := Lib.hid (show OwnI 2 wB (w.heap.size + 1) (some ⟨w1.heap.size + 1, 0, none⟩) 3 3 [8, 8, 8] by
      rw [hwB]
      have h := (((own_litL (w := w1.alloc (.cells #[.int .i64 16, .int .i64 16, .int .i64 16] 2)) (T := 2) (base := w.heap.size + 1) [8, 8, 8] _ (by simp; omega) rfl (by decide) (by decide) rfl).keep (hbA _ (.cells #[.int .i64 20, .int .i64 20, .int .i64 10] 2))).keep (hbA _ (.cells #[.slice (some ⟨w1.heap.size, 0, none⟩) 3 3, .slice (some ⟨w1.heap.size + 1, 0, none⟩) 3 3, .slice (some ⟨w1.heap.size + 2, 0, none⟩) 3 3] 24)))
      simpa using h)
    have A2 := Lib.hid (show OwnI 2 wB (w.heap.size + 1) (some ⟨w1.heap.size + 2, 0, none⟩) 3 3 [20, 20, 10] by
      rw [hwB]
      have h := ((own_litL (w := (w1.alloc (.cells #[.int .i64 16, .int .i64 16, .int .i64 16] 2)).alloc (.cells #[.int .i64 8, .int .i64 8, .int .i64 8] 2)) (T := 2) (base := w.heap.size + 1) [20, 20, 10] _ (by simp; omega) rfl (by decide) (by decide) rfl).keep (hbA _ (.cells #[.slice (some ⟨w1.heap.size, 0, none⟩) 3 3, .slice (some ⟨w1.heap.size + 1, 0, none⟩) 3 3, .slice (some ⟨w1.heap.size + 2, 0, none⟩) 3 3] 24)))
      simpa using h)
    have L := Lib.hid (show Blk wB (w1.heap.size + 3) #[.slice (some ⟨w1.heap.size, 0, none⟩) 3 3, .slice (some ⟨w1.heap.size + 1, 0, none⟩) 3 3, .slice (some ⟨w1.heap.size + 2, 0, none⟩) 3 3] 24 by
      rw [hwB]
      have h := Blk.made (((w1.alloc (.cells #[.int .i64 16, .int .i64 16, .int .i64 16] 2)).alloc (.cells #[.int .i64 8, .int .i64 8, .int .i64 8] 2)).alloc (.cells #[.int .i64 20, .int .i64 20, .int .i64 10] 2)) #[.slice (some ⟨w1.heap.size, 0, none⟩) 3 3, .slice (some ⟨w1.heap.size + 1, 0, none⟩) 3 3, .slice (some ⟨w1.heap.size + 2, 0, none⟩) 3 3] 24
      simpa using h)
    have D2 := Lib.hid (D1.out.below hbB)
    have X2 := Lib.hid (X1.out.keep hbB)
    have hsB := hbB.size
    rw [← hwB]
    clear hwB hbB D1 X1 hbA
    refine Calls.mono (dw_next (b := b) (lo := lo) D2.out.src (by decide)) ?_
    rintro e w3 ⟨i, rfl, hi0, hi1, hd⟩
    have hi3 : i < 3 := by omega
    have hs3 := hd.size
    have D3 := Lib.hid (D2.out.trans hd)
    have X3 := Lib.hid (X2.out.dw hd (by omega))
    have L3 := Lib.hid (L.out.dw hd (by omega))
    have HA := Lib.hid (show ∀ j : Nat, j < 3 → ∃ sz, OwnI 2 w3 (w.heap.size + 1) (some ⟨w1.heap.size + j, 0, none⟩) 3 3 sz ∧ ∀ z ∈ sz, 0 ≤ z ∧ z ≤ 20 from fun j hj => by
      rcases (show j = 0 ∨ j = 1 ∨ j = 2 by omega) with rfl | rfl | rfl
      · exact ⟨_, A0.out.dw hd (by omega), by decide⟩
      · exact ⟨_, A1.out.dw hd (by omega), by decide⟩
      · exact ⟨_, A2.out.dw hd (by omega), by decide⟩)
    clear hd D2 X2 L A0 A1 A2 hi1
    obtain ⟨j, rfl⟩ : ∃ j : Nat, i = (j : Int) := ⟨i.toNat, by omega⟩
    have hj3 : j < 3 := by omega
    have l0 := L3.out.cell j
    have ll := L3.out.lt
    have hl0 : (#[Value.slice (some ⟨w1.heap.size, 0, none⟩) 3 3, .slice (some ⟨w1.heap.size + 1, 0, none⟩) 3 3, .slice (some ⟨w1.heap.size + 2, 0, none⟩) 3 3] : Array Value)[j]? = some (.slice (some ⟨w1.heap.size + j, 0, none⟩) 3 3) := by
      rcases (show j = 0 ∨ j = 1 ∨ j = 2 by omega) with rfl | rfl | rfl <;> rfl
    rw [hl0] at l0
    have hj0 : (0 : Int) ≤ (j : Int) := by omega
    have hj33 : (j : Int) < 3 := by omega
    obtain ⟨sz, hS, hz⟩ := HA.out j hj3
    have S3 := Lib.hid hS
    have HZ := Lib.hid hz
    clear hS hz HA hl0
    go_wp2_with fail
    generalize w1.heap.size + j = gs at *
    have hbE : Below w3.heap.size w3 (w3.alloc (.cells #[] 64)) := below_alloc1 (Below.refl _ _) _
    have R4 := Lib.hid (show RRow (w3.alloc (.cells #[] 64)) (w.heap.size + 1) (some ⟨w3.heap.size, 0, none⟩) 0 0 [] from ⟨(OwnF.emp (k := 3) (enc := encR) (ok := fun _ => True) (E := 64) w3 (show w.heap.size + 1 ≤ w3.heap.size by omega) (fun _ => rfl)), fun x hx => by cases hx⟩)
    have D4 := Lib.hid (D3.out.below hbE)
    have X4 := Lib.hid (X3.out.keep hbE)
    have S4 := Lib.hid (S3.out.keep hbE)
    have hs4 : w.heap.size + 1 ≤ (w3.alloc (.cells #[] 64)).heap.size := by have := hbE.size; omega
    clear D3 X3 S3 L3 l0 ll hbE
    go_loopw [4, 5] (fun s4 s5 wr => ∃ (a : Option Addr) (n c : Nat) (l : List (RM × RuD)) (v : Int), s4 = .slice a n c ∧ s5 = .int .i64 v ∧ 0 ≤ v ∧ v ≤ 3 ∧ (n : Int) ≤ 20 * v ∧ w.heap.size + 1 ≤ wr.heap.size ∧ Hid (Dw 55 lo b w wr) ∧ Hid (Blk wr w.heap.size #[.slice none 0 0, .slice none 0 0, .slice none 0 0] 27) ∧ Hid (OwnI 2 wr (w.heap.size + 1) (some ⟨gs, 0, none⟩) 3 3 sz) ∧ Hid (RRow wr (w.heap.size + 1) a n c l)) (fun _ s5 _ => (3 - intOf s5).toNat)
    case atStart => exact ⟨_, 0, 0, [], 0, rfl, rfl, by omega, by omega, by omega, hs4, D4, X4, S4, R4⟩
    case round =>
      clear D4 X4 S4 R4 hs4
      obtain ⟨a0, n0, c0, l0, v, rfl, rfl, hv0, hv3, hn0, hsr, HD, X, S, R⟩ := hrel
      by_cases hv : v < 3
      · have hev : IntKind.i64.wrap (v + 1) = v + 1 := IntWalk.i64_in _ (by omega)
        obtain ⟨V, rfl⟩ : ∃ V : Nat, v = (V : Int) := ⟨v.toNat, by omega⟩
        have hV : V < 3 := by omega
        have hlen := S.out.len
        obtain ⟨z, hzV⟩ : ∃ z, sz[V]? = some z := ⟨_, List.getElem?_eq_getElem (by omega)⟩
        have hz2 := HZ.out z (List.mem_of_getElem? hzV)
        obtain ⟨wo, hwo⟩ : ∃ x : World, x = wr := ⟨_, rfl⟩
        subst hwo
        go_wp2_with fail
        go_loopw [4, 6] (fun s4 s6 wr => ∃ (a : Option Addr) (n c : Nat) (l : List (RM × RuD)) (k : Int), s4 = .slice a n c ∧ s6 = .int .i64 k ∧ 0 ≤ k ∧ k ≤ 20 ∧ (n : Int) ≤ 20 * (V : Int) + k ∧ w.heap.size + 1 ≤ wr.heap.size ∧ Hid (Dw 55 lo b w wr) ∧ Hid (Blk wr w.heap.size #[.slice none 0 0, .slice none 0 0, .slice none 0 0] 27) ∧ Hid (OwnI 2 wr (w.heap.size + 1) (some ⟨gs, 0, none⟩) 3 3 sz) ∧ Hid (RRow wr (w.heap.size + 1) a n c l)) (fun _ s6 _ => (20 - intOf s6).toNat)
        case atStart => exact ⟨_, _, _, _, 0, rfl, rfl, by omega, by omega, by omega, hsr, HD, X, S, R⟩
        case round =>
          clear HD X S R
          obtain ⟨a, n, c, l, k, rfl, rfl, hk0, hk20, hnk, hsr2, HD, X, S, R⟩ := hrel
          have hek : IntKind.i64.wrap (k + 1) = k + 1 := IntWalk.i64_in _ (by omega)
          have cz := S.out.cellv hzV
          have hcl := (S.out.blk gs rfl).2
          have hV0 : (0 : Int) ≤ (V : Int) := by omega
          have hV3 : (V : Int) < 3 := by omega
          by_cases hkz : k + 1 < z
          · obtain ⟨wE, hwE⟩ : ∃ v, v = (wr.alloc (.cells #[.int .i64 (V : Int), .int .i64 k, .bool true] 74)).alloc (.cells #[.int .i64 (V : Int), .int .i64 (k + 1)] 76) := ⟨_, rfl⟩
            have hbE : Below wr.heap.size wr wE := by rw [hwE]; exact below_alloc1 (below_alloc1 (Below.refl _ _) _) _
            have hsE : wE.heap.size = wr.heap.size + 2 := by rw [hwE]; simp
            have GT := Lib.hid (show OwnT wE (w.heap.size + 1) (some ⟨wr.heap.size, 0, none⟩) 1 1 [⟨(V : Int), k, true⟩] by
              rw [hwE]
              exact (OwnF.lit wr [(⟨(V : Int), k, true⟩ : I2b)] hsr2 rfl (show 1 ≤ 1048576 by decide) (fun _ => rfl) (fun y hy => by simp at hy; rw [hy]; exact ⟨show I64 (V : Int) by unfold I64; omega, show I64 k by unfold I64; omega⟩) rfl).keep (below_alloc1 (Below.refl _ _) _))
            have GA := Lib.hid (show OwnA wE (w.heap.size + 1) (some ⟨wr.heap.size + 1, 0, none⟩) 1 1 [⟨(V : Int), k + 1⟩] by
              rw [hwE]
              have h := OwnF.lit (k := 2) (enc := I2.enc) (cs := #[.int .i64 (V : Int), .int .i64 (k + 1)]) (base := w.heap.size + 1) (ok := I2.ok) (E := 76) (wr.alloc (.cells #[.int .i64 (V : Int), .int .i64 k, .bool true] 74)) [(⟨(V : Int), k + 1⟩ : I2)] (by simp; omega) rfl (show 1 ≤ 1048576 by decide) (fun _ => rfl) (fun y hy => by simp at hy; rw [hy]; exact ⟨show I64 (V : Int) by unfold I64; omega, show I64 (k + 1) by unfold I64; omega⟩) rfl
              simpa using h)
            have R5 := Lib.hid (R.out.keep hbE)
            have D5 := Lib.hid (HD.out.below hbE)
            have X5 := Lib.hid (X.out.keep hbE)
            have S5 := Lib.hid (S.out.keep hbE)
            have RO5 := Lib.hid (show RO wE (w.heap.size + 1) (⟨⟨#[117, 112]⟩, some ⟨wr.heap.size, 0, none⟩, 1, 1, some ⟨wr.heap.size + 1, 0, none⟩, 1, 1⟩, ⟨⟨#[117, 112]⟩, [⟨(V : Int), k, true⟩], [⟨(V : Int), k + 1⟩]⟩) from ⟨rfl, show (⟨#[117, 112]⟩ : ByteArray).size ≤ maxLen by decide, GT.out, show 1 ≤ 1048576 by decide, GA.out, show 1 ≤ 1048576 by decide⟩)
            clear HD X S R GT GA
            subst hwE
            clear hsE
            go_wp2_with (at_builtin; refine appAtL (k := 3) (m := 1) (enc := encR) (ok := fun _ => True) rfl _ _ rfl Try.underlying25 Try.infoRule rfl (by decide) (by decide) encR_one9 (w.heap.size + 1) _ _ _ l [(⟨⟨#[117, 112]⟩, some ⟨wr.heap.size, 0, none⟩, 1, 1, some ⟨wr.heap.size + 1, 0, none⟩, 1, 1⟩, ⟨⟨#[117, 112]⟩, [⟨(V : Int), k, true⟩], [⟨(V : Int), k + 1⟩]⟩)] R5.out.row rfl _ rfl (by simp) rfl rfl (fun _ _ => trivial) (by decide) (by omega) (by decide) (by simp; omega) ?_; intro g9 c9 wn ho hb hg hat hz9; refine Hid.out ?_)
            have ht : Touch _ wn 1 a := ⟨_, hg, fun b e => ⟨by decide, own_block R5.out.row.1 b e⟩⟩
            have hty := fun {g : Nat} => R5.out.row.typ (g := g)
            have Xn := Lib.hid (X5.out.keepA ht (blk_ne X5.out hty (by decide)))
            have Sn := Lib.hid (S5.out.keepT ht (typ_apart S5.out.typ hty (by decide)))
            have Rn := Lib.hid (show RRow wn (w.heap.size + 1) (some ⟨g9, 0, none⟩) (n + 1) c9 (l ++ [(⟨⟨#[117, 112]⟩, some ⟨wr.heap.size, 0, none⟩, 1, 1, some ⟨wr.heap.size + 1, 0, none⟩, 1, 1⟩, ⟨⟨#[117, 112]⟩, [⟨(V : Int), k, true⟩], [⟨(V : Int), k + 1⟩]⟩)]) from ⟨ho, fun y hy => by
              rcases List.mem_append.1 hy with h | h
              · exact (R5.out.each y h).keepT9 ht hty (by decide) (by decide)
              · simp only [List.mem_singleton] at h; rw [h]; exact RO5.out.keepT9 ht hty (by decide) (by decide)⟩)
            have Dn := Lib.hid (D5.out.own hb (by omega))
            have hsn : w.heap.size + 1 ≤ wn.heap.size := by (try simp at hz9); omega
            clear ho hb hg hat hz9 ht hty X5 S5 R5 RO5 D5 hbE
            refine Lib.hid ?_
            go_wp2_with fail
            go_roundw
            case rel => exact ⟨some ⟨g9, 0, none⟩, n + 1, c9, _, k + 1, rfl, by go_num, by omega, by omega, by omega, hsn, Dn, Xn, Sn, Rn⟩
            case measure => simp [intOf]; omega
          · have hkz' : ¬ k + 1 < z := hkz
            go_wp2_with fail
            go_roundw
            case rel => exact ⟨a, n, c, _, (V : Int) + 1, rfl, by go_num, by omega, by omega, by omega, hsr2, HD, X, S, R⟩
            case measure => simp [intOf]; omega
      · have hv' : ¬ v < 3 := hv
        have x0 := X.out.cell 0
        have x1 := X.out.cell 1
        have x2 := X.out.cell 2
        have xl := X.out.lt
        have xf := X.out.free
        simp only [List.getElem?_toArray, List.getElem?_cons_zero, List.getElem?_cons_succ] at x0 x1 x2
        have hbZ : Below wr.heap.size wr (wr.alloc (.cells #[.int .i64 0, .int .i64 0, .int .i64 0] 2)) := below_alloc1 (Below.refl _ _) _
        have Z := Lib.hid (own_litL (w := wr) (T := 2) (m := 3) (base := w.heap.size + 1) [0, 0, 0] _ hsr rfl (by decide) (by decide) rfl)
        have HM := Lib.hid (DrM.out (r := w.heap.size) (v0 := undef) (v1 := undef) (v2 := undef) (HD.out.below hbZ) (S.out.keep hbZ) Z.out (R.out.keep hbZ) (by omega) (Nat.le_refl _) (by omega) (by omega) (by omega) (by omega))
        have hM := HM.out
        rw [World.setCell_alloc_past _ _ _ _ (by omega), World.setCell_alloc_past _ _ _ _ (by simp [World.setCell]; omega), World.setCell_alloc_past _ _ _ _ (by simp [World.setCell]; omega)] at hM
        replace HM := Lib.hid hM
        clear hbZ Z HD S R hM
        go_wp2
        exact bodyPost_ret (v := .agg #[.slice (some ⟨gs, 0, none⟩) 3 3, .slice (some ⟨wr.heap.size, 0, none⟩) 3 3, .slice a0 n0 c0]) (by simp [results, Try.results36, go_sem, *]) rfl HM.out
  · have hy' : (y == 0) = false := by simpa using hy
    have x0 := X1.out.cell 0
    have x1 := X1.out.cell 1
    have x2 := X1.out.cell 2
    simp only [List.getElem?_toArray, List.getElem?_cons_zero, List.getElem?_cons_succ] at x0 x1 x2
    go_wp2_with fail
    refine Calls.mono (spec_l20Draw (b := b) (lo := lo) D1.out) ?_
    rintro e w2 ⟨sa, ta, ra, sn, sc, tn, tc, rn, rc, sz, st, l, rfl, hS, hT, hR, h1, h5, ht5, hr3, hd⟩
    have X2 := Lib.hid (X1.out.dw hd (by omega))
    have HM := Lib.hid (DrM.out (r := w.heap.size) (v0 := undef) (v1 := undef) (v2 := undef) (D1.out.trans hd) hS hT hR (by omega) (Nat.le_refl _) h1 h5 ht5 hr3)
    clear hS hT hR hd x0 x1 x2 D1 X1
    have x0 := X2.out.cell 0
    have x1 := X2.out.cell 1
    have x2 := X2.out.cell 2
    have xl := X2.out.lt
    have xf := X2.out.free
    simp only [List.getElem?_toArray, List.getElem?_cons_zero, List.getElem?_cons_succ] at x0 x1 x2
    go_wp2
    exact bodyPost_ret (v := .agg #[.slice sa sn sc, .slice ta tn tc, .slice ra rn rc]) (by simp [results, Try.results36, go_sem, *]) rfl HM.out
end Go.Proofs.Ytcnjnkjnpfpaeaa
