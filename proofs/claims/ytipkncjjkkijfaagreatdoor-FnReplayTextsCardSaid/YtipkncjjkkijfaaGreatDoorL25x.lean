/- The texts of replays: both functions walked. -/
import Derived.Test.YtipkncjjkkijfaaGreatDoorL25w
import Derived.Test.YtipkncjjkkijfaaGreatDoorWs
namespace Go.Proofs.YtipkncjjkkijfaaGreatDoor
open Go.RowKit
set_option linter.unusedVariables false
set_option linter.unusedSimpArgs false
attribute [local go_sem ↓] Go.wp_at_zero Go.wp_at_succ
theorem map_take_snoc {α β : Type} (f : α → β) {l : List α} {k : Nat} {x : α} (h : l[k]? = some x) : (l.take (k + 1)).map f = (l.take k).map f ++ [f x] := by
  rw [take_at h, List.map_append]; rfl
theorem OwnF.nil {α : Type} {k : Nat} {enc : α → List Value} {ok : α → Prop} {E : TypeId} (w : World) (base : Nat) (hk : ∀ x, (enc x).length = k) : OwnF k enc ok E w base none 0 0 [] := ⟨World.ownsRow_nil w base _ k, (fun _ h => by cases h), rfl, hk⟩
def rpT (b : Int) (l : List Int) (evs : List I3) : ByteArray := if rpC b l evs = 0 then ⟨(txL evs).toArray⟩ else ⟨#[]⟩
theorem rpC_ok {b : Int} {l : List Int} {evs : List I3} (h : rpC b l evs = 0) : 2 ≤ b ∧ b ≤ 8 ∧ l.length ≤ 4 ∧ evs.length ≤ 200 ∧ ∀ x ∈ evs, evB b l.length x = true := by
  unfold rpC at h
  split at h
  · rename_i ht
    split at h
    · omega
    · split at h
      · omega
      · rename_i h2 h3
        have h1 := trafB_split ht
        refine ⟨h1.1, h1.2.1, h1.2.2.2.1, by omega, fun x hx => ?_⟩
        rw [all_of_any] at h3
        simp at h3
        exact h3 x hx
  · omega
theorem evB_parts {b : Int} {n : Nat} {x : I3} (hv : evB b n x = true) (hb : b ≤ 8) (hn : n ≤ 4) : 0 ≤ x.b ∧ x.b < 10 ∧ 0 ≤ x.c ∧ x.c < 4 := by
  obtain ⟨xa, xb, xc⟩ := x
  simp only [evB, eventB] at hv
  split at hv
  · simp [inB] at hv; simp; omega
  · split at hv
    · simp [inB] at hv; simp; omega
    · cases hv
theorem ba_app (a b : List UInt8) : (⟨a.toArray⟩ : ByteArray) ++ ⟨b.toArray⟩ = ⟨(a ++ b).toArray⟩ := by
  apply ByteArray.ext; simp
theorem wd_size (x : I3) : (wdB x).size ≤ 8 := by
  have := wdL_len x
  show (wdL x).toArray.size ≤ 8
  simpa using this
set_option maxRecDepth 100000 in
set_option maxHeartbeats 2000000 in
theorem spec_ReplayText {b : Int} {a s : Option Addr} {n c m d : Nat} {l : List Int} {evs : List I3} {w : World} (hI : Ints w a n c l) (hS : F3 w s m d evs) (hn : n ≤ 1048576) (hm : m ≤ 1048576) :
    Calls Tryz.prog 10 #[.agg #[.int .i64 b, .slice a n c], .slice s m d] w fun e w' => e = .returned (.string (rpT b l evs)) ∧ Below w.heap.size w w' := by
  have k1 := fun (wx : World) (hb : Below w.heap.size w wx) => spec_l25Code (b := b) (hI.keep hb) (hS.keep hb) hn hm
  have HS := Lib.hid hS
  have hsl := hS.len
  by_cases h0 : rpC b l evs = 0
  · have HT := Lib.hid (show rpT b l evs = ⟨(txL evs).toArray⟩ by rw [rpT, if_pos h0])
    obtain ⟨hb0, hb1, hl4, hm2, hall⟩ := rpC_ok h0
    rw [h0] at k1
    have K1 := Lib.hid k1
    have HA := Lib.hid hall
    have hll := hI.len
    rw [hsl] at hm2
    generalize rpT b l evs = T at *
    clear k1 hall h0 hI hS
    go_enter Tryz.func10, Tryz.ntmps10
    go_wp2_with fail
    refine Calls.mono (K1.out _ bel) ?_
    rintro e w1 ⟨rfl, hb_w1⟩
    obtain ⟨hc_w1, hf_w1⟩ := bcell hb_w1
    have hs_w1 := hb_w1.size
    have hB1 : Below w.heap.size w w1 := bel
    clear hb_w1 hc_w1 hf_w1
    go_wp2_with fail
    go_loopw [5, 6] (fun s5 s6 wr => ∃ (i : Nat) (o : ByteArray), s5 = .string o ∧ s6 = .int .i64 i ∧ i ≤ m ∧ o.size ≤ 11 * i ∧ Below w.heap.size w wr ∧ Hid (o = ⟨(txL (evs.take i)).toArray⟩)) (fun _ s6 _ => m - (intOf s6).toNat)
    case atStart => exact ⟨0, _, rfl, rfl, by omega, Nat.le_refl _, hB1, Lib.hid rfl⟩
    case round =>
      clear hB1
      obtain ⟨i, o, rfl, rfl, hi, hos, hbl, A⟩ := hrel
      by_cases hlt : i < m
      · have hlt' : (i : Int) < (m : Int) := by omega
        have hi0 : (0 : Int) ≤ (i : Int) := by omega
        obtain ⟨b', off, x, rfl, hb', hx, hwf, c0, c1, c2⟩ := F3.get (HS.out.keep hbl) hlt
        have hev := HA.out x (List.mem_of_getElem? hx)
        have hp := evB_parts hev hb1 hl4
        obtain ⟨xa, xb, xc⟩ := x
        simp only at hp c0 c1 c2
        obtain ⟨k, rfl⟩ := Int.eq_ofNat_of_zero_le hp.1
        have hk : k < 10 := by omega
        have hw := fun (wx : World) => spec_l25Word (x := ⟨xa, (k : Int), xc⟩) (w := wx) hev
        have hws := wd_size ⟨xa, (k : Int), xc⟩
        have Hx := Lib.hid hx
        have HWD := Lib.hid (show wdB ⟨xa, (k : Int), xc⟩ = ⟨(wdL ⟨xa, (k : Int), xc⟩).toArray⟩ from rfl)
        generalize wdB ⟨xa, (k : Int), xc⟩ = wd at *
        have HW := Lib.hid hw
        have hds : (digStr k).size = 1 := rfl
        clear hev hx hw hp
        have hstep : ∀ o' : ByteArray, o' = ⟨((if evs.take i = [] then [] else txL (evs.take i) ++ [59])).toArray⟩ → o' ++ wd ++ ⟨#[32]⟩ ++ digStr k = ⟨(txL (evs.take (i + 1))).toArray⟩ := fun o' ho' => by
          rw [take_at Hx.out, txL_snoc, ho', HWD.out, ba_app, show (⟨#[32]⟩ : ByteArray) = ⟨([32] : List UInt8).toArray⟩ from rfl, ba_app, show digStr k = ⟨([UInt8.ofNat (48 + k)] : List UInt8).toArray⟩ from rfl, ba_app]
          simp [evW]
        have HST := Lib.hid hstep
        clear hstep
        by_cases hz : i = 0
        · have hz' : ¬ 0 < i := by omega
          have hz2 : decide (0 < i) = false := by simp [hz]
          have f1 : ¬ 9223372036854775807 < o.size + wd.size := by omega
          have f2 : ¬ 9223372036854775807 < o.size + wd.size + 1 := by omega
          have f3 : ¬ 9223372036854775807 < o.size + wd.size + 1 + 1 := by omega
          have HZ := Lib.hid hz
          clear hz
          go_wp2_with fail
          go_region_held3 (fun wx => wx.cell? ⟨b', off + i * 3, none⟩ = some (.int .i64 xa) ∧ wx.cell? ⟨b', off + i * 3 + 1, none⟩ = some (.int .i64 (k : Int)) ∧ wx.cell? ⟨b', off + i * 3 + 2, none⟩ = some (.int .i64 xc) ∧ b' < wx.heap.size ∧ Below w.heap.size w wx) (((try go_split_ands); (repeat' apply And.intro) <;> first | assumption | exact Blk.keep (by assumption) hbx | exact Blk.drew (by assumption) | exact Blk.drew (Blk.made _ _ _) | exact Below.drew (by assumption) | exact Below.drew (below_allocS (by first | exact Below.refl _ _ | assumption) _) | exact below_callS (by assumption) hbx | exact below_call (by assumption) hbx (Below.size (by assumption)) | exact (hcx _ _ (by assumption)).trans (by assumption) | omega | (simp [*]; done) | (simp; omega))) (first | (go_at_call 28; refine Calls.mono (HW.out _) ?_; rintro e wx2 ⟨rfl, hbx⟩; obtain ⟨hcx, hfx⟩ := bcell hbx; have hsx := hbx.size) | (go_at_call 29; refine Calls.mono (spec_l01Dec_1 hk) ?_; rintro e wx3 ⟨rfl, hbx⟩; obtain ⟨hcx, hfx⟩ := bcell hbx; have hsx := hbx.size))
          go_split_ands
          go_wp2_with fail
          go_roundw
          have h32 : (⟨#[32]⟩ : ByteArray).size = 1 := rfl
          have h59 : (⟨#[59]⟩ : ByteArray).size = 1 := rfl
          case rel => exact ⟨i + 1, _, rfl, by go_num, by omega, by rw [ByteArray.size_append, ByteArray.size_append, ByteArray.size_append, hds, h32]; omega, by assumption, Lib.hid (HST.out _ (by rw [A.out, HZ.out]; rfl))⟩
          case measure => simp [intOf]; omega
        · have hz' : 0 < i := by omega
          have hz2 : decide (0 < i) = true := by simp [hz']
          have f0 : ¬ 9223372036854775807 < o.size + 1 := by omega
          have f1 : ¬ 9223372036854775807 < o.size + 1 + wd.size := by omega
          have f2 : ¬ 9223372036854775807 < o.size + 1 + wd.size + 1 := by omega
          have f3 : ¬ 9223372036854775807 < o.size + 1 + wd.size + 1 + 1 := by omega
          have htk : ¬ evs.take i = [] := fun h => by have := congrArg List.length h; rw [List.length_take, hsl] at this; simp at this; omega
          have HTK := Lib.hid htk
          clear hz htk
          go_wp2_with fail
          go_region_held3 (fun wx => wx.cell? ⟨b', off + i * 3, none⟩ = some (.int .i64 xa) ∧ wx.cell? ⟨b', off + i * 3 + 1, none⟩ = some (.int .i64 (k : Int)) ∧ wx.cell? ⟨b', off + i * 3 + 2, none⟩ = some (.int .i64 xc) ∧ b' < wx.heap.size ∧ Below w.heap.size w wx) (((try go_split_ands); (repeat' apply And.intro) <;> first | assumption | exact Blk.keep (by assumption) hbx | exact Blk.drew (by assumption) | exact Blk.drew (Blk.made _ _ _) | exact Below.drew (by assumption) | exact Below.drew (below_allocS (by first | exact Below.refl _ _ | assumption) _) | exact below_callS (by assumption) hbx | exact below_call (by assumption) hbx (Below.size (by assumption)) | exact (hcx _ _ (by assumption)).trans (by assumption) | omega | (simp [*]; done) | (simp; omega))) (first | (go_at_call 28; refine Calls.mono (HW.out _) ?_; rintro e wx2 ⟨rfl, hbx⟩; obtain ⟨hcx, hfx⟩ := bcell hbx; have hsx := hbx.size) | (go_at_call 29; refine Calls.mono (spec_l01Dec_1 hk) ?_; rintro e wx3 ⟨rfl, hbx⟩; obtain ⟨hcx, hfx⟩ := bcell hbx; have hsx := hbx.size))
          go_split_ands
          go_wp2_with fail
          go_roundw
          have h32 : (⟨#[32]⟩ : ByteArray).size = 1 := rfl
          have h59 : (⟨#[59]⟩ : ByteArray).size = 1 := rfl
          case rel => exact ⟨i + 1, _, rfl, by go_num, by omega, by rw [ByteArray.size_append, ByteArray.size_append, ByteArray.size_append, ByteArray.size_append, hds, h32, h59]; omega, by assumption, Lib.hid (HST.out _ (by rw [A.out, if_neg HTK.out, show (⟨#[59]⟩ : ByteArray) = ⟨([59] : List UInt8).toArray⟩ from rfl, ba_app]))⟩
          case measure => simp [intOf]; omega
      · obtain rfl : m = i := by omega
        have hlt' : ¬ (m : Int) < (m : Int) := by omega
        have hA := A.out
        rw [take_len hsl] at hA
        have HA2 := Lib.hid hA
        clear hA
        go_wp2
        go_ret
        exact ⟨by rw [HT.out, HA2.out]; rfl, hbl⟩
  · have HT := Lib.hid (show rpT b l evs = ⟨#[]⟩ by rw [rpT, if_neg h0])
    have hC' : (rpC b l evs != 0) = true := by simpa using h0
    generalize rpC b l evs = C at *
    generalize rpT b l evs = T at *
    have K1 := Lib.hid k1
    clear k1 h0 hI hS hsl
    go_enter Tryz.func10, Tryz.ntmps10
    go_wp2_with fail
    refine Calls.mono (K1.out _ bel) ?_
    rintro e w1 ⟨rfl, hb_w1⟩
    obtain ⟨hc_w1, hf_w1⟩ := bcell hb_w1
    have hs_w1 := hb_w1.size
    go_wp2
    go_ret
    exact ⟨by rw [HT.out]; rfl, bel⟩
abbrev OwnS := OwnF 1 (fun s : ByteArray => [Value.string s]) (fun s => s.size ≤ maxLen) 9
theorem Tryz.infoStr : (Tryz.prog.info? 9).map (fun i => (i.zero, i.size, i.bytes)) = some (some (.string ⟨#[]⟩), 1, 16) := by kernel_rfl
def evBs (x : I3) : ByteArray := ⟨(evW x).toArray⟩
theorem evBs_size (x : I3) : (evBs x).size ≤ maxLen := by
  have h := wdL_len x
  show (evW x).toArray.size ≤ maxLen
  simp [evW]; unfold maxLen; omega
theorem evBs_list (l : List I3) : (l.map evBs).map (·.data.toList) = l.map evW := by
  rw [List.map_map]; rfl
theorem join_evs {a : Option Addr} {n c base : Nat} {l : List I3} {w : World} (h : OwnS w base a n c (l.map evBs)) (hn : n ≤ 200) :
    Calls Tryz.prog 18 #[.slice a n c, .string ⟨#[59]⟩] w fun e w' => e = .returned (.string ⟨(txL l).toArray⟩) ∧ Below w.heap.size w w' := by
  have hl := h.len
  have hl2 : l.length = n := by simpa using hl
  by_cases h0 : n = 0
  · subst h0
    obtain rfl : l = [] := List.length_eq_zero_iff.1 hl2
    refine (Tryz.strings_Join_none a c ⟨#[59]⟩ w).mono ?_
    rintro e w' ⟨rfl, rfl⟩
    exact ⟨rfl, Below.refl _ _⟩
  · obtain ⟨g, rfl⟩ := h.shape (by omega)
    have hF := h.flats
    have htx := txL_len l
    have hj := Tryz.strings_Join g 0 c (l.map evBs) ⟨#[59]⟩ w (fun j x hx => by
      obtain ⟨b, off, he, _, hc⟩ := hF.pos.resolve_left h0
      cases he
      have := hc j x hx 0 _ rfl
      simpa using this) (h.blk g rfl).2 (by rw [hl]; omega) (by rw [hl]; exact hF.cap) (by rw [evBs_list]; show (txL l).length ≤ _; omega)
    rw [hl, evBs_list] at hj
    exact hj
set_option maxRecDepth 100000 in
set_option maxHeartbeats 2000000 in
theorem impl_ReplayText {b : Int} {a s : Option Addr} {n c m d : Nat} {l : List Int} {evs : List I3} {w : World} (hTb : Tab w 0 (strsCells statusNm)) (hI : Ints w a n c l) (hS : F3 w s m d evs) (hn : n ≤ 1048576) (hm : m ≤ 1048576) :
    Calls Tryz.prog 6 #[.agg #[.int .i64 b, .slice a n c], .slice s m d] w fun e w' => e = .returned (.string (rpT b l evs)) ∧ Below w.heap.size w w' := by
  have k1 := fun (wx : World) (hb : Below w.heap.size w wx) => impl_replayCode (b := b) (hI.keep hb) (hS.keep hb) hn hm
  have HS := Lib.hid hS
  have HTB := Lib.hid hTb
  have hsl := hS.len
  by_cases h0 : rpC b l evs = 0
  · have HT := Lib.hid (show rpT b l evs = ⟨(txL evs).toArray⟩ by rw [rpT, if_pos h0])
    obtain ⟨hb0, hb1, hl4, hm2, hall⟩ := rpC_ok h0
    rw [h0] at k1
    have K1 := Lib.hid k1
    have HA := Lib.hid hall
    have hll := hI.len
    rw [hsl] at hm2
    generalize rpT b l evs = T at *
    clear k1 hall h0 hI hS hTb
    go_enter Tryz.func6, Tryz.ntmps6
    go_wp2_with fail
    refine Calls.mono (K1.out _ bel) ?_
    rintro e w1 ⟨rfl, hb_w1⟩
    obtain ⟨hc_w1, hf_w1⟩ := bcell hb_w1
    have hs_w1 := hb_w1.size
    have hB1 : Below w.heap.size w w1 := bel
    clear hb_w1 hc_w1 hf_w1
    simp at hs_w1
    go_wp2_with fail
    go_loopw [5, 14] (fun s5 s14 wr => ∃ (i : Nat) (a' : Option Addr) (c' : Nat), s5 = .slice a' i c' ∧ s14 = .int .i64 i ∧ i ≤ m ∧ w1.heap.size ≤ wr.heap.size ∧ Below w.heap.size w wr ∧ Hid (OwnS wr w1.heap.size a' i c' ((evs.take i).map evBs))) (fun _ s14 _ => m - (intOf s14).toNat)
    case atStart => exact ⟨0, none, 0, rfl, rfl, by omega, Nat.le_refl _, hB1, Lib.hid (OwnF.nil _ _ (fun _ => rfl))⟩
    case round =>
      clear hB1
      obtain ⟨i, a', c', rfl, rfl, hi, hsr, hbl, O⟩ := hrel
      by_cases hlt : i < m
      · have hlt' : (i : Int) < (m : Int) := by omega
        have hi0 : (0 : Int) ≤ (i : Int) := by omega
        obtain ⟨b', off, x, rfl, hb', hx, hwf, c0, c1, c2⟩ := F3.get (HS.out.keep hbl) hlt
        have hev := HA.out x (List.mem_of_getElem? hx)
        have hp := evB_parts hev hb1 hl4
        obtain ⟨xa, xb, xc⟩ := x
        simp only at hp c0 c1 c2
        obtain ⟨k, rfl⟩ := Int.eq_ofNat_of_zero_le hp.1
        obtain ⟨v, rfl⟩ := Int.eq_ofNat_of_zero_le hp.2.2.1
        have hk : k < 10 := by omega
        have hv4 : (v : Int) < 4 := by omega
        have hv0 : (0 : Int) ≤ (v : Int) := by omega
        have hvn : v < 4 := by omega
        have Hx := Lib.hid hx
        have hstat : statusNm[v]? = some (statusNm.getD v []) := by
          rw [List.getD_eq_getElem?_getD, List.getElem?_eq_getElem (show v < statusNm.length from hvn)]; rfl
        have hws := wd_size ⟨xa, (k : Int), (v : Int)⟩
        have hT2 := (HTB.out.keep hbl).2 v _ (strs_at hstat)
        have hTl := (HTB.out.keep hbl).1
        have HWD := Lib.hid (show wdB ⟨xa, (k : Int), (v : Int)⟩ = ⟨(statusNm.getD v []).toArray⟩ from rfl)
        rw [← HWD.out] at hT2
        have HEV := Lib.hid (show wdB ⟨xa, (k : Int), (v : Int)⟩ ++ ⟨#[32]⟩ ++ digStr k = evBs ⟨xa, (k : Int), (v : Int)⟩ by
          rw [show wdB ⟨xa, (k : Int), (v : Int)⟩ = ⟨(wdL ⟨xa, (k : Int), (v : Int)⟩).toArray⟩ from rfl, show (⟨#[32]⟩ : ByteArray) = ⟨([32] : List UInt8).toArray⟩ from rfl, ba_app, show digStr k = ⟨([UInt8.ofNat (48 + k)] : List UInt8).toArray⟩ from rfl, ba_app]
          rfl)
        have hes := evBs_size ⟨xa, (k : Int), (v : Int)⟩
        have HM := Lib.hid (map_take_snoc evBs hx)
        generalize evBs ⟨xa, (k : Int), (v : Int)⟩ = eb at *
        generalize wdB ⟨xa, (k : Int), (v : Int)⟩ = wd at *
        have HES := Lib.hid hes
        have hds : (digStr k).size = 1 := rfl
        have f1 : ¬ 9223372036854775807 < wd.size + 1 := by omega
        have f2 : ¬ 9223372036854775807 < wd.size + 1 + 1 := by omega
        clear hx hev hp hstat hes
        go_wp2_with fail
        obtain ⟨W1, hW1⟩ : ∃ W1 : World, W1 = wr.alloc (.cells #[.int .i64 xa, .int .i64 (k : Int), .int .i64 (v : Int)] 38) := ⟨_, rfl⟩
        have hbW : Below wr.heap.size wr W1 := by rw [hW1]; exact bel
        have E : Blk W1 wr.heap.size #[.int .i64 xa, .int .i64 (k : Int), .int .i64 (v : Int)] 38 := by rw [hW1]; exact Blk.made _ _ _
        have e1 := E.cell 1
        have e2 := E.cell 2
        have el := E.lt
        simp at e1 e2
        have ht1 : W1.cell? ⟨0, v, none⟩ = some (.string wd) := (hbW.cell (p := ⟨0, v, none⟩) hTl).trans hT2
        have hgl : 0 < W1.heap.size := by omega
        rw [← hW1]
        clear hW1 c0 c1 c2 hT2 hTl E
        refine wp_region_noPanic ?_
        refine wp_region_held_drew (S := fun wx => wx.cell? ⟨wr.heap.size, 1, none⟩ = some (.int .i64 (k : Int)) ∧ wx.cell? ⟨wr.heap.size, 2, none⟩ = some (.int .i64 (v : Int)) ∧ wx.cell? ⟨0, v, none⟩ = some (.string wd)) (by kernel_rfl) ⟨cell_drew e1, cell_drew e2, cell_drew ht1⟩ (fun hHeld => ?_)
        refine tkH 0 ?_
        try simp only [Act.put, s1, s2, s3]
        refine tkH 1 ?_
        try simp only [Act.put, s1, s2, s3]
        refine tkH0 2 (v := ?_) ?_ ?_
        rotate_left
        · intro wq hSw
          have hq0 := hSw.2.1
          go_simp
          try with_reducible rfl
        try simp only [Act.put, s1, s2, s3]
        refine tkH 3 ?_
        try simp only [Act.put, s1, s2, s3]
        refine tkH0 4 (v := ?_) ?_ ?_
        rotate_left
        · intro wq hSw
          have hq0 := hSw.2.2
          go_simp
          try with_reducible rfl
        try simp only [Act.put, s1, s2, s3]
        refine tkH 5 ?_
        try simp only [Act.put, s1, s2, s3]
        refine tkH 6 ?_
        try simp only [Act.put, s1, s2, s3]
        refine tkH0 7 (v := ?_) ?_ ?_
        rotate_left
        · intro wq hSw
          have hq0 := hSw.1
          go_simp
          try with_reducible rfl
        try simp only [Act.put, s1, s2, s3]
        refine wpAnyH_ready (rs := [8]) (by kernel_rfl) (by simp) ?_
        refine AllReadyH.cons rfl (fun K hK => ?_) AllReadyH.nil
        go_simp
        refine Calls.mono (impl_decimal hk) ?_
        rintro e _ ⟨rfl, rfl⟩
        go_wp2_with fail
        refine hK.out _ _ hHeld (fun hHeld => ?_)
        clear hK K
        try simp only [Act.put, s1, s2, s3]
        refine tkH 9 ?_
        try simp only [Act.put, s1, s2, s3]
        refine wpAnyH_ready (rs := [10]) (by kernel_rfl) (by simp) ?_
        refine AllReadyH.cons rfl (fun K hK => ?_) AllReadyH.nil
        go_simp
        refine hK.out _ _ ⟨cell_drew (cell_alloc e1), cell_drew (cell_alloc e2), cell_drew (cell_alloc ht1)⟩ (fun hHeld => ?_)
        clear hK K
        try simp only [Act.put, s1, s2, s3]
        refine wpAnyH_ready (rs := [11]) (by kernel_rfl) (by simp) ?_
        refine AllReadyH.cons rfl (fun K hK => ?_) AllReadyH.nil
        refine wp_appAtL (cs := #[.string (wd ++ ⟨#[32]⟩ ++ digStr k)]) (.tmp 18) (.tmp 28) (by rfl) Tryz.underlying43 Tryz.infoStr (by rfl) (by decide) (by decide) (fun y u hu => by simp at hu; subst hu; rfl) w1.heap.size _ _ _ _ [eb] (O.out.keep (show Below _ _ _ from bel)) (by rfl) W1.heap.size (by rfl) (Blk.made W1 _ _).drew (by rw [HEV.out]; rfl) (by rfl) (fun y hy => by simp at hy; subst hy; exact HES.out) (by decide) (by omega) (by decide) (by (try simp); omega) ?_
        intro g' c2 wn ho hb hg
        have hbn : Below w1.heap.size W1 wn := (show Below w1.heap.size W1 _ from Below.drew ((Below.refl _ _).alloc (by omega) _)).trans hb
        have O2 := Lib.hid ho
        have hbl2 := (below_callS hbl hbW).trans (hbn.mono (by omega))
        have hsn := hbn.size
        have hown : ∀ q, (Value.slice a' i c').ownBlock = some q → w1.heap.size ≤ q ∧ q < wr.heap.size := fun q hq => O.out.1.lt q hq
        have hfar : ∀ q o, q < W1.heap.size + 1 → (q < w1.heap.size ∨ wr.heap.size ≤ q) → wn.cell? ⟨q, o, none⟩ = (W1.alloc (.cells #[.string (wd ++ ⟨#[32]⟩ ++ digStr k)] 9)).drew.cell? ⟨q, o, none⟩ := fun q o h1 h2 => hg.cell_far ⟨q, o, none⟩ (by simpa using h1) (fun e => by have := hown q e.symm; omega)
        have hS1 := (hfar wr.heap.size 1 (by omega) (by omega)).trans (cell_drew (cell_alloc e1))
        have hS2 := (hfar wr.heap.size 2 (by omega) (by omega)).trans (cell_drew (cell_alloc e2))
        have hS3 := (hfar 0 v (by omega) (.inl (by have hh := (HTB.out).1; omega))).trans (cell_drew (cell_alloc ht1))
        clear ho hb hg hown hfar
        refine hK.out _ _ ⟨hS1, hS2, hS3⟩ (fun hHeld => ?_)
        clear hK K
        try simp only [Act.put, s1, s2, s3]
        refine tkH 12 ?_
        try simp only [Act.put, s1, s2, s3]
        refine wpAnyH_done (by kernel_rfl) ?_ _
        refine NoPanic.normal ?_
        go_wp2_with fail
        go_roundw
        case rel => exact ⟨i + 1, _, _, rfl, by go_num, by omega, by omega, hbl2, by rw [HM.out]; exact O2⟩
        case measure => simp [intOf]; omega
      · obtain rfl : m = i := by omega
        have hlt' : ¬ (m : Int) < (m : Int) := by omega
        have hO := O.out
        rw [take_len hsl] at hO
        have HO := Lib.hid hO
        clear hO O
        go_wp2_with fail
        refine Calls.mono (join_evs HO.out hm2) ?_
        rintro e w3 ⟨rfl, hb3⟩
        go_wp2
        go_ret
        exact ⟨by rw [HT.out]; rfl, bel⟩
  · have HT := Lib.hid (show rpT b l evs = ⟨#[]⟩ by rw [rpT, if_neg h0])
    have hC' : (rpC b l evs != 0) = true := by simpa using h0
    generalize rpC b l evs = C at *
    generalize rpT b l evs = T at *
    have K1 := Lib.hid k1
    clear k1 h0 hI hS hsl hTb
    go_enter Tryz.func6, Tryz.ntmps6
    go_wp2_with fail
    refine Calls.mono (K1.out _ bel) ?_
    rintro e w1 ⟨rfl, hb_w1⟩
    obtain ⟨hc_w1, hf_w1⟩ := bcell hb_w1
    have hs_w1 := hb_w1.size
    go_wp2
    go_ret
    exact ⟨by rw [HT.out]; rfl, bel⟩
end Go.Proofs.YtipkncjjkkijfaaGreatDoor
