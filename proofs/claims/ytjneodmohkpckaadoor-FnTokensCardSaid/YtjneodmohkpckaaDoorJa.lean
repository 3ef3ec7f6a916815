/- The standard text: its plain form; the program's side, walked. -/
import Derived.Test.YtjneodmohkpckaaDoorEz
import Derived.Test.YtjneodmohkpckaaDoorSg
import Derived.Test.YtjneodmohkpckaaDoorSd
namespace Go.Proofs.YtjneodmohkpckaaDoor
open Go.RowKit
set_option linter.unusedVariables false
set_option linter.unusedSimpArgs false
def tkAt (l : List TR) (k : Nat) : TR := l.getD k ⟨0, ⟨#[]⟩⟩
theorem tkAt_of {l : List TR} {k : Nat} {x : TR} (h : l[k]? = some x) : tkAt l k = x := by rw [tkAt, List.getD_eq_getElem?_getD, h]; rfl
/-- what stands in the text for the token k -/
def pcT (l : List TR) (k : Nat) : List UInt8 := (if 0 < k ∧ blkB (tkAt l (k - 1)).t (tkAt l k).t = true then [32] else []) ++ (tkAt l k).t.data.toList ++ (if isS (tkAt l k).t 59 = true then [10] else [])
def txL (l : List TR) (k : Nat) : List UInt8 := (List.range k).flatMap (pcT l)
theorem txL_next (l : List TR) (k : Nat) : txL l (k + 1) = txL l k ++ pcT l k := by rw [txL, List.range_succ, List.flatMap_append]; simp [txL]
theorem pcT_len {l : List TR} {k : Nat} (h : (tkAt l k).t.size ≤ 13) : (pcT l k).length ≤ 15 := by
  have h1 := str_len (tkAt l k).t
  rw [pcT, List.length_append, List.length_append]
  split <;> split <;> simp <;> omega
theorem txL_len {l : List TR} (h : ∀ k, (tkAt l k).t.size ≤ 13) (k : Nat) : (txL l k).length ≤ 15 * k := by
  induction k with
  | zero => simp [txL]
  | succ k ih => rw [txL_next, List.length_append]; have := pcT_len (h k); omega
theorem tkAt_sz {l : List TR} (h : ∀ x ∈ l, x.t.size ≤ 13) (k : Nat) : (tkAt l k).t.size ≤ 13 := by
  cases hk : l[k]? with
  | none => rw [tkAt, List.getD_eq_getElem?_getD, hk]; decide
  | some x => rw [tkAt_of hk]; exact h x (List.mem_of_getElem? hk)
theorem blk_others {e : TypeId} {q p : Nat} {w w' : World} {cs : Array Value} {T : TypeId} (h : Blk w p cs T) (ho : Lib.OthersKept e (some q) w w') (hq : p ≠ q) (hT : T ≠ e) : Blk w' p cs T :=
  ho p _ h (fun e => hq (Option.some.inj e)) (fun c fz e => by cases e; exact hT rfl)
def Bld (w : World) (b : Nat) (l : List UInt8) : Prop := Lib.IsBuilderF 73 5 b b (Lib.byteCells l) w
theorem Bld.keep {w w' : World} {b : Nat} {l : List UInt8} (h : Bld w b l) (hb : Below w.heap.size w w') : Bld w' b l := by
  have hg : w.grownBy w' none := by
    refine ⟨hb.os, hb.tape, hb.output, hb.size, ?_⟩
    intro k hk _
    exact hb.block k hk
  rcases h with h | h
  all_goals
    have hlt := h.lt
    obtain ⟨h1, v, h2, h3, h4⟩ := h
    have h5 := h3.kept hg (by by_cases e : v.ownBlock = none <;> simp [e])
    have h6 := (hb.block b hlt).trans h2
  · exact .inl ⟨h1, v, h6, h5, h4⟩
  · exact .inr ⟨h1, v, h6, h5, h4⟩
theorem Bld.lt {w : World} {b : Nat} {l : List UInt8} (h : Bld w b l) : b < w.heap.size := by
  rcases h with h | h <;> exact h.lt
theorem Bld.byte {w : World} {b : Nat} {l : List UInt8} {c : Int} (d : UInt8) (hc : c = (d.toNat : Int)) (h : Bld w b l) (hz : l.length ≤ 100000) : Calls Tryd.prog 49 #[.pointer (some ⟨b, 0, none⟩), .int .u8 c] w fun e w' => e = .returned .nilIface ∧ Bld w' b (l ++ [d]) ∧ Below b w w' ∧ Lib.OthersKept 5 (some b) w w' := by
  subst hc
  refine (bld_WriteByte_k b b _ _ w h (by simp [Lib.byteCells]; omega) (Nat.le_of_lt h.lt)).mono ?_
  rintro e w' ⟨h1, h2, h3, h4⟩
  exact ⟨h1, .inr (by simpa [Lib.byteCells] using h2), h3, h4⟩
theorem Bld.str {w : World} {b : Nat} {l : List UInt8} {s : ByteArray} (h : Bld w b l) (hz : l.length ≤ 100000) (hs : s.size ≤ 100000) : Calls Tryd.prog 50 #[.pointer (some ⟨b, 0, none⟩), .string s] w fun e w' => (∃ v, e = .returned v) ∧ Bld w' b (l ++ s.data.toList) ∧ Below b w w' ∧ Lib.OthersKept 5 (some b) w w' := by
  refine (bld_WriteString_k b b _ _ w h (by simp [Lib.byteCells]; omega) (Nat.le_of_lt h.lt)).mono ?_
  rintro e w' ⟨h1, h2, h3, h4⟩
  exact ⟨⟨_, h1⟩, .inr (by simpa [Lib.byteCells, Lib.strCells] using h2), h3, h4⟩
theorem Bld.made {w : World} : Bld (w.alloc (.cells #[.pointer none, .slice none 0 0] 73)) w.heap.size [] := by
  exact .inl (Lib.BuilderAtF.of (T := 73) (e := 5) (bs := []) (show Lib.BuilderAt _ _ _ _ _ _ _ from ⟨Nat.le_refl _, .slice none 0 0, Blk.made w _ _, World.ownsRow_nil _ _ _ _, by simp [Value.ownBlock]⟩))
set_option maxHeartbeats 2000000 in
theorem impl_standardText {a : Option Addr} {n c : Nat} {l : List TR} {w : World} (hT : Tab w 0 (strsCells kwNm)) (hI : FW w a n c l) (hn : n ≤ 1000) (hz : ∀ x ∈ l, x.t.size ≤ 13) : Calls Tryd.prog 25 #[.slice a n c] w fun e w' => e = .returned (.string ⟨(txL l n).toArray⟩) ∧ Below w.heap.size w w' := by
  have HI := Lib.hid hI
  have HZ := Lib.hid (txL_len (tkAt_sz hz))
  have HLEN := Lib.hid hI.len
  have HT := Lib.hid hT
  clear hI hT hz
  go_enter Tryd.func25, Tryd.ntmps25
  go_wp2_with fail
  have hb0 : Below w.heap.size w (w.alloc (.cells #[.pointer none, .slice none 0 0] 73)) := below_alloc1 (Below.refl _ _) _
  have B0 := Lib.hid (Bld.made (w := w))
  go_loopw [8] (fun s8 wr => ∃ k : Nat, s8 = .int .i64 (k : Int) ∧ k ≤ n ∧ Below w.heap.size w wr ∧ Hid (Bld wr w.heap.size (txL l k))) (fun s8 _ => n - (intOf s8).toNat)
  case atStart => exact ⟨0, rfl, by omega, hb0, B0⟩
  case round =>
    clear B0 hb0
    obtain ⟨k, rfl, hk, hbl, B⟩ := hrel
    by_cases hlt : k < n
    · obtain ⟨b, off, x, rfl, hb, hx, hwf, c0, c1⟩ := FW.get (HI.out.keep hbl) hlt
      have hk0 : (0 : Int) ≤ (k : Int) := by omega
      have hlt' : (k : Int) < (n : Int) := by omega
      have HX := Lib.hid (tkAt_of hx)
      have hz1 := HZ.out k
      have hwl := B.out.lt
      have hzx : x.t.size ≤ 20000 := by
        have h2 := HZ.out (k + 1)
        have h3 := str_len x.t
        rw [txL_next, List.length_append, pcT, tkAt_of hx, List.length_append, List.length_append] at h2
        omega
      clear hx hwf
      by_cases hk1 : k = 0
      · subst hk1
        simp only [Nat.zero_mul, Nat.add_zero] at c0 c1
        go_wp2_with fail
        go_quiet (fail)
        go_wp2_with fail
        have B1 := Lib.hid (show Bld _ w.heap.size (txL l 0 ++ []) from by rw [List.append_nil]; exact B.out.keep (w' := (wr.alloc (.cells #[.int .i64 x.k, .string x.t] 33)).drewN nq) bel)
        have K1 := Lib.hid (show Blk ((wr.alloc (.cells #[.int .i64 x.k, .string x.t] 33)).drewN nq) wr.heap.size #[.int .i64 x.k, .string x.t] 33 from Blk.made wr _ _)
        have hb1 : Below w.heap.size w ((wr.alloc (.cells #[.int .i64 x.k, .string x.t] 33)).drewN nq) := bel
        have hpp : w.heap.size < wr.heap.size := hwl
        refine Calls.mono (Bld.str B1.out (by have := HZ.out 0; simp only [List.length_append, List.length_cons, List.length_nil]; omega) (by omega)) ?_
        rintro e w3 ⟨⟨v, rfl⟩, h3, hb3, ho3⟩
        have B3 := Lib.hid h3
        have K3 := Lib.hid (blk_others K1.out ho3 (by omega) (by decide))
        have hb3w : Below w.heap.size w w3 := hb1.trans hb3
        have f0 := K3.out.cell 0
        have f1 := K3.out.cell 1
        have f2 := K3.out.lt
        simp only [List.getElem?_toArray, List.getElem?_cons_zero, List.getElem?_cons_succ] at f0 f1
        clear h3 hb3 ho3 B1 K1
        cases hs : (x.t.toList == [59])
        · have HP := Lib.hid (show pcT l (0) = ([] : List UInt8) ++ x.t.data.toList by
            have hs' : isS x.t 59 = false := hs
            simp [pcT, HX.out, hs'])
          go_wp2_with fail
          go_roundw
          case rel => exact ⟨0 + 1, by go_num, by omega, hb3w, Lib.hid (by rw [txL_next, HP.out, ← List.append_assoc]; exact B3.out)⟩
          case measure => simp only [intOf]; omega
        · have HP := Lib.hid (show pcT l (0) = ([] : List UInt8) ++ x.t.data.toList ++ [10] by
            have hs' : isS x.t 59 = true := hs
            simp [pcT, HX.out, hs'])
          go_wp2_with fail
          refine Calls.mono (Bld.byte 10 rfl B3.out (by have := HZ.out 0; have h5 := str_len x.t; simp only [List.length_append, List.length_cons, List.length_nil]; omega)) ?_
          rintro e w4 ⟨rfl, h4, hb4, ho4⟩
          have B4 := Lib.hid h4
          have hb4w : Below w.heap.size w w4 := hb3w.trans hb4
          clear h4 hb4 ho4
          go_wp2_with fail
          go_roundw
          case rel => exact ⟨0 + 1, by go_num, by omega, hb4w, Lib.hid (by rw [txL_next, HP.out, ← List.append_assoc, ← List.append_assoc]; exact B4.out)⟩
          case measure => simp only [intOf]; omega
      · obtain ⟨k, rfl⟩ : ∃ q, k = q + 1 := ⟨k - 1, by omega⟩
        have hk1' : (0 : Int) < ((k + 1 : Nat) : Int) := by omega
        have ek : IntKind.i64.wrap (((k + 1 : Nat) : Int) - 1) = (k : Int) := by rw [IntWalk.i64_in _ (by omega)]; omega
        have ek2 : IntKind.i64.wrap (k : Int) = (k : Int) := IntWalk.i64_in _ (by omega)
        have ek3 : IntKind.i64.wrap ((k : Int) + 1 - 1) = (k : Int) := by rw [IntWalk.i64_in _ (by omega)]; omega
        have hkk0 : (0 : Int) ≤ (k : Int) := by omega
        have hkkn : (k : Int) < (n : Int) := by omega
        obtain ⟨b', off', x', e', hb', hx', hwf', d0, d1⟩ := FW.get (HI.out.keep hbl) (i := k) (by omega)
        cases e'
        have HX' := Lib.hid (tkAt_of hx')
        clear hx' hwf'
        go_wp2_with fail
        obtain ⟨wA, hwA⟩ : ∃ v, v = wr.alloc (.cells #[.int .i64 x.k, .string x.t] 33) := ⟨_, rfl⟩
        have hbr : Below wr.heap.size wr wA := by rw [hwA]; exact below_alloc1 (Below.refl _ _) _
        have hbA : Below w.heap.size w wA := below_callS hbl hbr
        have hpA : wA.heap.size = wr.heap.size + 1 := by rw [hwA]; exact Array.size_push _
        have hBK : Blk wA wr.heap.size #[.int .i64 x.k, .string x.t] 33 := by rw [hwA]; exact Blk.made wr _ _
        have f0 := hBK.cell 0
        have f1 := hBK.cell 1
        simp only [List.getElem?_toArray, List.getElem?_cons_zero, List.getElem?_cons_succ] at f0 f1
        have g0 := (hbr.cell (p := ⟨b, off + k * 2, none⟩) hb).trans d0
        have g1 := (hbr.cell (p := ⟨b, off + k * 2 + 1, none⟩) hb).trans d1
        have BA := Lib.hid (B.out.keep hbr)
        have BK := Lib.hid hBK
        have hbs : b < wA.heap.size := by omega
        have hps : wr.heap.size < wA.heap.size := by omega
        have KT := Lib.hid (fun (wx : World) (hq : Below wA.heap.size wA wx) => impl_isTight (j := x'.k) (k := x.k) (a := x'.t) (b := x.t) (HT.out.keep (below_callS hbA hq)))
        rw [← hwA]
        clear hwA hBK c0 c1 d0 d1 B
        generalize wr.heap.size = p at *
        go_region_held3 (fun wx => wx.cell? ⟨b, off + k * 2, none⟩ = some (.int .i64 x'.k) ∧ wx.cell? ⟨b, off + k * 2 + 1, none⟩ = some (.string x'.t) ∧ wx.cell? ⟨p, 0, none⟩ = some (.int .i64 x.k) ∧ wx.cell? ⟨p, 1, none⟩ = some (.string x.t) ∧ b < wx.heap.size ∧ p < wx.heap.size ∧ Below wA.heap.size wA wx) (((try go_split_ands); (repeat' apply And.intro) <;> first | assumption | exact Below.drew (Below.refl _ _) | exact Blk.keep (by assumption) hbx | exact Blk.drew (by assumption) | exact Blk.drew (Blk.made _ _ _) | exact Below.drew (by assumption) | exact Below.drew (below_allocS (by first | exact Below.refl _ _ | assumption) _) | exact below_callS (by assumption) hbx | exact below_call (by assumption) hbx (Below.size (by assumption)) | exact (hcx _ _ (by assumption)).trans (by assumption) | omega | (simp [*]; done) | (simp; omega))) (first | (go_at_call 48; refine Calls.mono (KT.out _ (by first | assumption | exact Below.drew (Below.refl _ _))) ?_; rintro e wx2 ⟨rfl, hbx⟩; obtain ⟨hcx, hfx⟩ := bcell hbx; have hsx := hbx.size))
        go_split_ands
        have hqx : Below wA.heap.size wA wx2 := by assumption
        have K2 := Lib.hid (BK.out.keep hqx)
        have B2 := Lib.hid (BA.out.keep hqx)
        have hb2w : Below w.heap.size w wx2 := below_callS hbA hqx
        cases hbk : blkB x'.t x.t
        · go_wp2_with fail
          have B1 := Lib.hid (show Bld wx2 w.heap.size (txL l (k + 1) ++ []) by rw [List.append_nil]; exact B2.out)
          have K1 := K2
          have hb1 := hb2w
          refine Calls.mono (Bld.str B1.out (by have := HZ.out (k + 1); simp only [List.length_append, List.length_cons, List.length_nil]; omega) (by omega)) ?_
          rintro e w3 ⟨⟨v, rfl⟩, h3, hb3, ho3⟩
          have B3 := Lib.hid h3
          have K3 := Lib.hid (blk_others K1.out ho3 (by omega) (by decide))
          have hb3w : Below w.heap.size w w3 := hb1.trans hb3
          have f0 := K3.out.cell 0
          have f1 := K3.out.cell 1
          have f2 := K3.out.lt
          simp only [List.getElem?_toArray, List.getElem?_cons_zero, List.getElem?_cons_succ] at f0 f1
          clear h3 hb3 ho3 B1 K1
          cases hs : (x.t.toList == [59])
          · have HP := Lib.hid (show pcT l ((k + 1)) = ([] : List UInt8) ++ x.t.data.toList by
              have hs' : isS x.t 59 = false := hs
              simp [pcT, HX.out, HX'.out, hbk, hs'])
            go_wp2_with fail
            go_roundw
            case rel => exact ⟨(k + 1) + 1, by go_num, by omega, hb3w, Lib.hid (by rw [txL_next, HP.out, ← List.append_assoc]; exact B3.out)⟩
            case measure => simp only [intOf]; omega
          · have HP := Lib.hid (show pcT l ((k + 1)) = ([] : List UInt8) ++ x.t.data.toList ++ [10] by
              have hs' : isS x.t 59 = true := hs
              simp [pcT, HX.out, HX'.out, hbk, hs'])
            go_wp2_with fail
            refine Calls.mono (Bld.byte 10 rfl B3.out (by have := HZ.out (k + 1); have h5 := str_len x.t; simp only [List.length_append, List.length_cons, List.length_nil]; omega)) ?_
            rintro e w4 ⟨rfl, h4, hb4, ho4⟩
            have B4 := Lib.hid h4
            have hb4w : Below w.heap.size w w4 := hb3w.trans hb4
            clear h4 hb4 ho4
            go_wp2_with fail
            go_roundw
            case rel => exact ⟨(k + 1) + 1, by go_num, by omega, hb4w, Lib.hid (by rw [txL_next, HP.out, ← List.append_assoc, ← List.append_assoc]; exact B4.out)⟩
            case measure => simp only [intOf]; omega
        · go_wp2_with fail
          refine Calls.mono (Bld.byte 32 rfl B2.out (by have := HZ.out (k + 1); omega)) ?_
          rintro e w5 ⟨rfl, h5, hb5, ho5⟩
          have B1 := Lib.hid h5
          have K1 := Lib.hid (blk_others K2.out ho5 (by omega) (by decide))
          have hb1 : Below w.heap.size w w5 := hb2w.trans hb5
          have f0 := K1.out.cell 0
          have f1 := K1.out.cell 1
          have f2 := K1.out.lt
          simp only [List.getElem?_toArray, List.getElem?_cons_zero, List.getElem?_cons_succ] at f0 f1
          clear h5 hb5 ho5
          go_wp2_with fail
          refine Calls.mono (Bld.str B1.out (by have := HZ.out (k + 1); simp only [List.length_append, List.length_cons, List.length_nil]; omega) (by omega)) ?_
          rintro e w3 ⟨⟨v, rfl⟩, h3, hb3, ho3⟩
          have B3 := Lib.hid h3
          have K3 := Lib.hid (blk_others K1.out ho3 (by omega) (by decide))
          have hb3w : Below w.heap.size w w3 := hb1.trans hb3
          have f0 := K3.out.cell 0
          have f1 := K3.out.cell 1
          have f2 := K3.out.lt
          simp only [List.getElem?_toArray, List.getElem?_cons_zero, List.getElem?_cons_succ] at f0 f1
          clear h3 hb3 ho3 B1 K1
          cases hs : (x.t.toList == [59])
          · have HP := Lib.hid (show pcT l ((k + 1)) = [32] ++ x.t.data.toList by
              have hs' : isS x.t 59 = false := hs
              simp [pcT, HX.out, HX'.out, hbk, hs'])
            go_wp2_with fail
            go_roundw
            case rel => exact ⟨(k + 1) + 1, by go_num, by omega, hb3w, Lib.hid (by rw [txL_next, HP.out, ← List.append_assoc]; exact B3.out)⟩
            case measure => simp only [intOf]; omega
          · have HP := Lib.hid (show pcT l ((k + 1)) = [32] ++ x.t.data.toList ++ [10] by
              have hs' : isS x.t 59 = true := hs
              simp [pcT, HX.out, HX'.out, hbk, hs'])
            go_wp2_with fail
            refine Calls.mono (Bld.byte 10 rfl B3.out (by have := HZ.out (k + 1); have h5 := str_len x.t; simp only [List.length_append, List.length_cons, List.length_nil]; omega)) ?_
            rintro e w4 ⟨rfl, h4, hb4, ho4⟩
            have B4 := Lib.hid h4
            have hb4w : Below w.heap.size w w4 := hb3w.trans hb4
            clear h4 hb4 ho4
            go_wp2_with fail
            go_roundw
            case rel => exact ⟨(k + 1) + 1, by go_num, by omega, hb4w, Lib.hid (by rw [txL_next, HP.out, ← List.append_assoc, ← List.append_assoc]; exact B4.out)⟩
            case measure => simp only [intOf]; omega
    · have hlt' : ¬ (k : Int) < (n : Int) := by omega
      obtain rfl : k = n := by omega
      go_wp2_with fail
      refine Calls.mono (Tryd.Builder_String_any_k w.heap.size w.heap.size _ wr B.out hbl.size) ?_
      rintro e w1 ⟨rfl, _, hb1, _⟩
      go_wp2
      go_ret
      exact ⟨rfl, hbl.trans hb1⟩
end Go.Proofs.YtjneodmohkpckaaDoor
