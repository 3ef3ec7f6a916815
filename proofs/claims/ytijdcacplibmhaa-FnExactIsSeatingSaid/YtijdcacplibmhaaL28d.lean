/- Seatings of layer 28, walked. -/
import Derived.Test.YtijdcacplibmhaaL28
import Derived.Test.YtijdcacplibmhaaL28c
namespace Go.Proofs.Ytijdcacplibmhaa
open Go.RowKit
set_option linter.unusedVariables false
set_option linter.unusedSimpArgs false
/-- what a function value g bound to lb answers at a place below n -/
def PredN (P : Program) (g : Nat) (lb : Array Value) (p : Int → Bool) (n : Nat) (w : World) : Prop :=
  ∀ (W : World) (x : Nat), x < n → Below w.heap.size w W → Calls P g (#[.int .i64 (x : Int)] ++ lb) W fun e w' => e = .returned (.bool (p x)) ∧ Below W.heap.size W w'
/-- is the guest at j one who may ride alone -/
def aloneP (l a m : Int) (hs : List Int) (j : Int) : Bool := verd l a m (hs[j.toNat]?.getD 0) == 2
def seatAt (l a m : Int) (hs ss : List Int) (R : Int) (i : Nat) : Bool :=
  (inB (ss[i]?.getD 0) 0 (2 * R - 1) && !((ss.take i).any fun y => ss[i]?.getD 0 == y)) && ((verd l a m (hs[i]?.getD 0) == 2) || ((verd l a m (hs[i]?.getD 0) == 1) && !decide (compF ss i (aloneP l a m hs) < 0)))
def seatB (l a m : Int) (hs ss : List Int) (R : Int) : Bool := ((hCode l a m hs == 0) && inB R 1 12 && (ss.length == hs.length)) && (List.range ss.length).all (seatAt l a m hs ss R)
theorem rall_step {p : Nat → Bool} {k : Nat} (h : (List.range k).all p = true) (hk : p k = true) : (List.range (k + 1)).all p = true := by
  rw [List.range_succ, List.all_append, h]; simp [hk]
theorem rall_false {p : Nat → Bool} {n k : Nat} (hk : k < n) (h : p k = false) : (List.range n).all p = false := by
  rw [Bool.eq_false_iff]
  intro hh
  rw [List.all_eq_true] at hh
  have := hh k (by simpa using hk)
  rw [h] at this
  cases this
set_option maxHeartbeats 2000000 in
theorem impl_companionN {gf : Nat} {lb : Array Value} {p : Int → Bool} {a : Option Addr} {n c g : Nat} {l : List Int} {w : World}
    (eg : ∀ args w, (callFunc gf args).run Try.prog w = .ok (.enter gf args) w) (hp : PredN Try.prog gf lb p n w) (hI : Ints w a n c l) (hn : n ≤ 1048576) (hg : g < n) :
    Calls Try.prog 55 #[.slice a n c, .int .i64 (g : Int), .func (.func gf) #[] lb] w fun e w' => e = .returned (.int .i64 (compF l g p)) ∧ Below w.heap.size w w' := by
  have HP := Lib.hid hp
  have HI := Lib.hid hI
  clear hp hI
  go_enter Try.func55, Try.ntmps55
  go_wp2
  go_loopg [7, 8, 11] n (fun gg _ _ s11 wr => ∃ k : Nat, k ≤ n ∧ n - k ≤ gg ∧ s11 = .int .i64 k ∧ Below w.heap.size w wr ∧ Hid ((List.range k).any (compAt l g p) = false))
  case atStart => exact ⟨0, Nat.zero_le _, by omega, rfl, Below.refl _ _, rfl⟩
  case round =>
    obtain ⟨k, hk, hgg, rfl, hbl, A⟩ := hrel
    by_cases hlt : k < n
    · obtain ⟨b, off, x, rfl, hb, hx, hcell, hwf⟩ := (HI.out.keep hbl).at hlt
      obtain ⟨_, _, y, he, _, hy, hcell', hwf'⟩ := (HI.out.keep hbl).at hg
      simp only [Option.some.injEq, Addr.mk.injEq, and_true] at he
      obtain ⟨rfl, rfl⟩ := he
      have hci : compAt l g p k = ((((k : Int) != (g : Int)) && (x.tdiv 2 == y.tdiv 2)) && p k) := by rw [compAt, hx, hy]; rfl
      have Hci := Lib.hid hci
      have hcall := HP.out _ k hlt hbl
      have hx0 := hwf.1
      have hx1 := hwf.2
      have hy0 := hwf'.1
      have hy1 := hwf'.2
      have hg0 : (0 : Int) ≤ (g : Int) := by omega
      have hg1 : (g : Int) < (n : Int) := by omega
      clear hx hy hci hwf hwf'
      cases h1 : ((k : Int) != (g : Int))
      · have H1 := Lib.hid h1
        go_wp2
        go_roundg (n - (k + 1))
        case measure => omega
        case rel => exact ⟨k + 1, by omega, by omega, by go_num, hbl, rany_step A.out (by rw [Hci.out, H1.out]; rfl)⟩
      · cases h2 : (x.tdiv 2 == y.tdiv 2)
        · have H1 := Lib.hid h1
          have H2 := Lib.hid h2
          go_wp2
          go_roundg (n - (k + 1))
          case measure => omega
          case rel => exact ⟨k + 1, by omega, by omega, by go_num, hbl, rany_step A.out (by rw [Hci.out, H1.out, H2.out]; rfl)⟩
        · have H1 := Lib.hid h1
          have H2 := Lib.hid h2
          cases hq : p (k : Int) with
          | true =>
            have Hq := Lib.hid hq
            rw [hq] at hcall
            clear hq
            go_wp2_with (go_at_fn gf; refine hcall.mono ?_; rintro e w1 ⟨rfl, hb1⟩)
            go_ret
            exact ⟨ret_int (by rw [compF_hit (by rw [HI.out.len]; exact hlt) (by rw [Hci.out, H1.out, H2.out, Hq.out]; rfl) A.out]), below_callS hbl hb1⟩
          | false =>
            have Hq := Lib.hid hq
            rw [hq] at hcall
            clear hq
            go_wp2_with (go_at_fn gf; refine hcall.mono ?_; rintro e w1 ⟨rfl, hb1⟩)
            go_roundg (n - (k + 1))
            case measure => omega
            case rel => exact ⟨k + 1, by omega, by omega, by go_num, below_callS hbl hb1, rany_step A.out (by rw [Hci.out, H1.out, H2.out, Hq.out]; rfl)⟩
    · go_wp2
      go_ret
      have e : k = n := by omega
      have h1 := A.out
      rw [e, ← HI.out.len] at h1
      exact ⟨ret_int (by rw [compF_miss h1]), hbl⟩
set_option maxHeartbeats 1000000 in
theorem impl_IsSeating_1 {l a m : Int} {ad : Option Addr} {n c b1 b2 k : Nat} {hs : List Int} {w : World} (h1 : Blk w b1 #[.int .i64 l, .int .i64 a, .int .i64 m] 31) (h2 : Blk w b2 #[.slice ad n c] 22) (hI : Ints w ad n c hs) (hk : k < n) :
    Calls Try.prog 70 #[.int .i64 (k : Int), .pointer (some ⟨b1, 0, none⟩), .pointer (some ⟨b2, 0, none⟩)] w fun e w' => e = .returned (.bool (aloneP l a m hs k)) ∧ Below w.heap.size w w' := by
  obtain ⟨b, off, x, rfl, hb, hx, hcell, hwf⟩ := hI.at hk
  have Hp := Lib.hid (show aloneP l a m hs (k : Int) = (verd l a m x == 2) by rw [aloneP, Int.toNat_natCast, hx]; rfl)
  have c0 := h1.cell 0
  have c1 := h1.cell 1
  have c2 := h1.cell 2
  have c3 := h2.cell 0
  have z1 := h1.lt
  have z2 := h2.lt
  simp at c0 c1 c2 c3
  have hk0 : (0 : Int) ≤ (k : Int) := by omega
  have hk1 : (k : Int) < (n : Int) := by omega
  clear h1 h2 hx hwf hI
  go_enter Try.func70, Try.ntmps70
  go_wp2
  go_region_held3 (fun wx => wx.cell? ⟨b1, 0, none⟩ = some (.int .i64 l) ∧ wx.cell? ⟨b1, 1, none⟩ = some (.int .i64 a) ∧ wx.cell? ⟨b1, 2, none⟩ = some (.int .i64 m) ∧ wx.cell? ⟨b2, 0, none⟩ = some (.slice (some ⟨b, off, none⟩) n c) ∧ wx.cell? ⟨b, off + k, none⟩ = some (.int .i64 x) ∧ b1 < wx.heap.size ∧ b2 < wx.heap.size ∧ b < wx.heap.size ∧ w.heap.size ≤ wx.heap.size ∧ Below w.heap.size w wx) (((try go_split_ands); (repeat' apply And.intro) <;> first | assumption | exact Below.drew (Below.refl _ _) | exact Blk.keep (by assumption) hbx | exact Blk.drew (by assumption) | exact Blk.drew (Blk.made _ _ _) | exact Below.drew (by assumption) | exact Below.drew (below_allocS (by first | exact Below.refl _ _ | assumption) _) | exact below_callS (by assumption) hbx | exact below_call (by assumption) hbx (Below.size (by assumption)) | exact (hcx _ _ (by assumption)).trans (by assumption) | omega | (simp [*]; done) | (simp; omega))) (first | (go_at_call 60; refine Calls.mono (impl_verdict (h := x)) ?_; rintro e wx2 ⟨rfl, hbx⟩; obtain ⟨hcx, hfx⟩ := bcell hbx; have hsx := hbx.size))
  go_split_ands
  go_wp2
  go_ret
  exact ⟨ret_bool Hp.out.symm, by assumption⟩
set_option maxHeartbeats 4000000 in
theorem impl_IsSeating {l a m R : Int} {ad sd : Option Addr} {n c ns cs : Nat} {hs ss : List Int} {w : World} (hI : Ints w ad n c hs) (hS : Ints w sd ns cs ss) (hn : n ≤ 1048576) (hns : ns ≤ 1048576) :
    Calls Try.prog 30 #[.agg #[.int .i64 l, .int .i64 a, .int .i64 m], .slice ad n c, .slice sd ns cs, .int .i64 R] w fun e w' => e = .returned (.bool (seatB l a m hs ss R)) ∧ Below w.heap.size w w' := by
  have hl := hI.len
  have hl' := hS.len
  have HI := Lib.hid hI
  have HS := Lib.hid hS
  have h1 := fun (wx : World) (hb : Below w.heap.size w wx) => impl_heightsCode (l := l) (a := a) (m := m) (HI.out.keep hb) hn
  have HB := Lib.hid (show seatB l a m hs ss R = (((hCode l a m hs == 0) && inB R 1 12 && (ns == n)) && (List.range ns).all (seatAt l a m hs ss R)) by rw [seatB, hl, hl'])
  clear hI hS hl hl'
  generalize hCode l a m hs = code at *
  have H1 := Lib.hid h1
  clear h1
  cases t1 : (code != 0)
  · have T1 := Lib.hid (show (code == 0) = true by simpa using t1)
    cases t2 : inB R 1 12
    · have T2 := Lib.hid t2
      clear t2
      go_enter Try.func30, Try.ntmps30
      go_wp2_with fail
      refine Calls.mono (H1.out _ (by repeat (first | exact Below.refl _ _ | assumption | refine below_allocS ?_ _ | refine below_callS ?_ (by assumption) | (refine Below.alloc ?_ (by first | omega | (simp; done) | (simp; omega)) _) | (refine Below.setCell ?_ (by first | omega | (simp; done) | (simp; omega)) _) | refine Below.drew ?_ | refine below_drewN ?_ _ | (refine below_call ?_ (by assumption) (by first | omega | (simp; done) | (simp; omega))) | (refine Below.trans ?_ (by assumption))))) ?_
      rintro e w1 ⟨rfl, hb_w1⟩
      obtain ⟨hc_w1, hf_w1⟩ := bcell hb_w1
      have hs_w1 := hb_w1.size
      go_wp2_with fail
      refine Calls.mono (impl_isRowCount) ?_
      rintro e _ ⟨rfl, rfl⟩
      rw [T2.out]
      go_wp2
      go_ret
      exact ⟨ret_bool (by rw [HB.out, T2.out]; simp), by repeat (first | exact Below.refl _ _ | assumption | refine below_allocS ?_ _ | refine below_callS ?_ (by assumption) | (refine Below.alloc ?_ (by first | omega | (simp; done) | (simp; omega)) _) | (refine Below.setCell ?_ (by first | omega | (simp; done) | (simp; omega)) _) | refine Below.drew ?_ | refine below_drewN ?_ _ | (refine below_call ?_ (by assumption) (by first | omega | (simp; done) | (simp; omega))) | (refine Below.trans ?_ (by assumption)))⟩
    · obtain ⟨hR0, hR1⟩ : 1 ≤ R ∧ R ≤ 12 := by simpa [inB] using t2
      have T2 := Lib.hid t2
      clear t2
      cases t3 : ((ns : Int) != (n : Int))
      · have hnn : ns = n := by simp at t3; omega
        subst hnn
        have HB' := Lib.hid (show seatB l a m hs ss R = (List.range ns).all (seatAt l a m hs ss R) by rw [HB.out, T1.out, T2.out]; simp)
        have W2 := Lib.hid (Blk.made (w.alloc (.cells #[.int .i64 l, .int .i64 a, .int .i64 m] 31)) #[.slice ad ns c] 22)
        have W1 := Lib.hid ((Blk.made w #[.int .i64 l, .int .i64 a, .int .i64 m] 31).keep (show Below _ _ ((w.alloc (.cells #[.int .i64 l, .int .i64 a, .int .i64 m] 31)).alloc (.cells #[.slice ad ns c] 22)) by repeat (first | exact Below.refl _ _ | assumption | refine below_allocS ?_ _ | refine below_callS ?_ (by assumption) | (refine Below.alloc ?_ (by first | omega | (simp; done) | (simp; omega)) _) | (refine Below.setCell ?_ (by first | omega | (simp; done) | (simp; omega)) _) | refine Below.drew ?_ | refine below_drewN ?_ _ | (refine below_call ?_ (by assumption) (by first | omega | (simp; done) | (simp; omega))) | (refine Below.trans ?_ (by assumption)))))
        go_enter Try.func30, Try.ntmps30
        go_wp2_with fail
        refine Calls.mono (H1.out _ (by repeat (first | exact Below.refl _ _ | assumption | refine below_allocS ?_ _ | refine below_callS ?_ (by assumption) | (refine Below.alloc ?_ (by first | omega | (simp; done) | (simp; omega)) _) | (refine Below.setCell ?_ (by first | omega | (simp; done) | (simp; omega)) _) | refine Below.drew ?_ | refine below_drewN ?_ _ | (refine below_call ?_ (by assumption) (by first | omega | (simp; done) | (simp; omega))) | (refine Below.trans ?_ (by assumption))))) ?_
        rintro e w1 ⟨rfl, hb_w1⟩
        obtain ⟨hc_w1, hf_w1⟩ := bcell hb_w1
        have hs_w1 := hb_w1.size
        simp at hs_w1
        have B1w := Lib.hid (W1.out.keep hb_w1)
        have B2w := Lib.hid (show Blk w1 (w.heap.size + 1) #[.slice ad ns c] 22 by have h := W2.out.keep hb_w1; simpa using h)
        go_wp2_with fail
        refine Calls.mono (impl_isRowCount) ?_
        rintro e _ ⟨rfl, rfl⟩
        rw [T2.out]
        have hbl1 : Below w.heap.size w w1 := by repeat (first | exact Below.refl _ _ | assumption | refine below_allocS ?_ _ | refine below_callS ?_ (by assumption) | (refine Below.alloc ?_ (by first | omega | (simp; done) | (simp; omega)) _) | (refine Below.setCell ?_ (by first | omega | (simp; done) | (simp; omega)) _) | refine Below.drew ?_ | refine below_drewN ?_ _ | (refine below_call ?_ (by assumption) (by first | omega | (simp; done) | (simp; omega))) | (refine Below.trans ?_ (by assumption)))
        go_wp2
        clear hb_w1 hc_w1 hf_w1 W1 W2
        go_loopw [10, 11, 12, 32] (fun _ _ _ s32 wr => ∃ k : Nat, k ≤ ns ∧ s32 = .int .i64 k ∧ Below w.heap.size w wr ∧ Hid (Blk wr w.heap.size #[.int .i64 l, .int .i64 a, .int .i64 m] 31) ∧ Hid (Blk wr (w.heap.size + 1) #[.slice ad ns c] 22) ∧ Hid ((List.range k).all (seatAt l a m hs ss R) = true)) (fun _ _ _ i _ => ns - (intOf i).toNat)
        case atStart => exact ⟨0, Nat.zero_le _, rfl, hbl1, B1w, B2w, rfl⟩
        case round =>
          clear hbl1 B1w B2w hs_w1
          obtain ⟨k, hk, rfl, hbl, B1, B2, A⟩ := hrel
          by_cases hlt : k < ns
          · obtain ⟨b, off, x, rfl, hb, hx, hcell, hwf⟩ := (HS.out.keep hbl).at hlt
            obtain ⟨b', off', y, rfl, hb', hy, hcell', hwf'⟩ := (HI.out.keep hbl).at hlt
            have Hat := Lib.hid (show seatAt l a m hs ss R k = ((inB x 0 (2 * R - 1) && !((ss.take k).any fun z => x == z)) && ((verd l a m y == 2) || ((verd l a m y == 1) && !decide (compF ss k (aloneP l a m hs) < 0)))) by rw [seatAt, hx, hy]; rfl)
            have hsk := HS.out.cap
            have c0 := B1.out.cell 0
            have c1 := B1.out.cell 1
            have c2 := B1.out.cell 2
            have c3 := B2.out.cell 0
            have z1 := B1.out.lt
            have z2 := B2.out.lt
            have k1 := B1.out
            have k2 := B2.out
            have hk0 : (0 : Int) ≤ (k : Int) := by omega
            have hk1 : (k : Int) < (ns : Int) := by omega
            simp at c0 c1 c2 c3
            clear hx hy hwf hwf'
            cases tin : inB x 0 (2 * R - 1)
            · have Tin := Lib.hid tin
              clear tin
              go_wp2_with fail
              refine Calls.mono (impl_within) ?_
              rintro e _ ⟨rfl, rfl⟩
              rw [Tin.out]
              go_wp2
              go_ret
              exact ⟨ret_bool (by rw [HB'.out, rall_false hlt (by rw [Hat.out, Tin.out]; rfl)]), hbl⟩
            · cases tdup : ((ss.take k).any fun z => x == z)
              · have Tin := Lib.hid tin
                have Tdup := Lib.hid tdup
                clear tin tdup
                rcases verd_cases l a m y with hv | hv | hv | hv
                · have Hvd := Lib.hid (fun (wx : World) => (show Calls Try.prog 60 #[.agg #[.int .i64 l, .int .i64 a, .int .i64 m], .int .i64 y] wx fun e w' => e = .returned (.int .i64 0) ∧ Below wx.heap.size wx w' from hv ▸ impl_verdict))
                  have Hv := Lib.hid hv
                  clear hv
                  go_wp2_with fail
                  refine Calls.mono (impl_within) ?_
                  rintro e _ ⟨rfl, rfl⟩
                  rw [Tin.out]
                  go_wp2_with fail
                  refine Calls.mono (slices_Contains_i64 ((HS.out.keep (by repeat (first | exact Below.refl _ _ | assumption | refine below_allocS ?_ _ | refine below_callS ?_ (by assumption) | (refine Below.alloc ?_ (by first | omega | (simp; done) | (simp; omega)) _) | (refine Below.setCell ?_ (by first | omega | (simp; done) | (simp; omega)) _) | refine Below.drew ?_ | refine below_drewN ?_ _ | (refine below_call ?_ (by assumption) (by first | omega | (simp; done) | (simp; omega))) | (refine Below.trans ?_ (by assumption))))).take (by omega)) (by omega)) ?_
                  rintro e _ ⟨rfl, rfl⟩
                  rw [Tdup.out]
                  go_wp2
                  go_region_held3 (fun wx => wx.cell? ⟨w.heap.size, 0, none⟩ = some (.int .i64 l) ∧ wx.cell? ⟨w.heap.size, 1, none⟩ = some (.int .i64 a) ∧ wx.cell? ⟨w.heap.size, 2, none⟩ = some (.int .i64 m) ∧ wx.cell? ⟨w.heap.size + 1, 0, none⟩ = some (.slice (some ⟨b', off', none⟩) ns c) ∧ wx.cell? ⟨b', off' + k, none⟩ = some (.int .i64 y) ∧ w.heap.size < wx.heap.size ∧ w.heap.size + 1 < wx.heap.size ∧ b' < wx.heap.size ∧ Below w.heap.size w wx ∧ Blk wx w.heap.size #[.int .i64 l, .int .i64 a, .int .i64 m] 31 ∧ Blk wx (w.heap.size + 1) #[.slice (some ⟨b', off', none⟩) ns c] 22) (((try go_split_ands); (repeat' apply And.intro) <;> first | assumption | exact Blk.keep (by assumption) hbx | exact Blk.drew (by assumption) | exact Blk.drew (Blk.made _ _ _) | exact Below.drew (by assumption) | exact Below.drew (below_allocS (by first | exact Below.refl _ _ | assumption) _) | exact below_callS (by assumption) hbx | exact below_call (by assumption) hbx (Below.size (by assumption)) | exact (hcx _ _ (by assumption)).trans (by assumption) | omega | (simp [*]; done) | (simp; omega))) (first | (go_at_call 60; refine Calls.mono (Hvd.out _) ?_; rintro e wx2 ⟨rfl, hbx⟩; obtain ⟨hcx, hfx⟩ := bcell hbx; have hsx := hbx.size))
                  go_split_ands
                  next hbl2 k1 k2 =>
                    go_wp2
                    go_ret
                    exact ⟨ret_bool (by rw [HB'.out, rall_false hlt (by rw [Hat.out, Tin.out, Tdup.out, Hv.out]; rfl)]), by assumption⟩
                · have Hcomp := Lib.hid (fun (wx : World) (hb : Below w.heap.size w wx) (q1 : Blk wx w.heap.size #[.int .i64 l, .int .i64 a, .int .i64 m] 31) (q2 : Blk wx (w.heap.size + 1) #[.slice (some ⟨b', off', none⟩) ns c] 22) => impl_companionN (w := wx) (gf := 70) (lb := #[.pointer (some ⟨w.heap.size, 0, none⟩), .pointer (some ⟨w.heap.size + 1, 0, none⟩)]) (p := aloneP l a m hs) (enters_of Try.func70 (by kernel_rfl) rfl) (fun W j hj hbW => impl_IsSeating_1 (q1.keep hbW) (q2.keep hbW) ((HI.out.keep hb).keep hbW) hj) (HS.out.keep hb) hns hlt)
                  generalize hq : compF ss k (aloneP l a m hs) = q at *
                  clear hq
                  cases tq : decide (q < 0)
                  all_goals
                    have Tq := Lib.hid tq
                    first | (have tq' := of_decide_eq_false tq) | (have tq' := of_decide_eq_true tq)
                    clear tq
                    have Hvd := Lib.hid (fun (wx : World) => (show Calls Try.prog 60 #[.agg #[.int .i64 l, .int .i64 a, .int .i64 m], .int .i64 y] wx fun e w' => e = .returned (.int .i64 1) ∧ Below wx.heap.size wx w' from hv ▸ impl_verdict))
                    have Hv := Lib.hid hv
                    clear hv
                    go_wp2_with fail
                    refine Calls.mono (impl_within) ?_
                    rintro e _ ⟨rfl, rfl⟩
                    rw [Tin.out]
                    go_wp2_with fail
                    refine Calls.mono (slices_Contains_i64 ((HS.out.keep (by repeat (first | exact Below.refl _ _ | assumption | refine below_allocS ?_ _ | refine below_callS ?_ (by assumption) | (refine Below.alloc ?_ (by first | omega | (simp; done) | (simp; omega)) _) | (refine Below.setCell ?_ (by first | omega | (simp; done) | (simp; omega)) _) | refine Below.drew ?_ | refine below_drewN ?_ _ | (refine below_call ?_ (by assumption) (by first | omega | (simp; done) | (simp; omega))) | (refine Below.trans ?_ (by assumption))))).take (by omega)) (by omega)) ?_
                    rintro e _ ⟨rfl, rfl⟩
                    rw [Tdup.out]
                    go_wp2
                    go_region_held3 (fun wx => wx.cell? ⟨w.heap.size, 0, none⟩ = some (.int .i64 l) ∧ wx.cell? ⟨w.heap.size, 1, none⟩ = some (.int .i64 a) ∧ wx.cell? ⟨w.heap.size, 2, none⟩ = some (.int .i64 m) ∧ wx.cell? ⟨w.heap.size + 1, 0, none⟩ = some (.slice (some ⟨b', off', none⟩) ns c) ∧ wx.cell? ⟨b', off' + k, none⟩ = some (.int .i64 y) ∧ w.heap.size < wx.heap.size ∧ w.heap.size + 1 < wx.heap.size ∧ b' < wx.heap.size ∧ Below w.heap.size w wx ∧ Blk wx w.heap.size #[.int .i64 l, .int .i64 a, .int .i64 m] 31 ∧ Blk wx (w.heap.size + 1) #[.slice (some ⟨b', off', none⟩) ns c] 22) (((try go_split_ands); (repeat' apply And.intro) <;> first | assumption | exact Blk.keep (by assumption) hbx | exact Blk.drew (by assumption) | exact Blk.drew (Blk.made _ _ _) | exact Below.drew (by assumption) | exact Below.drew (below_allocS (by first | exact Below.refl _ _ | assumption) _) | exact below_callS (by assumption) hbx | exact below_call (by assumption) hbx (Below.size (by assumption)) | exact (hcx _ _ (by assumption)).trans (by assumption) | omega | (simp [*]; done) | (simp; omega))) (first | (go_at_call 60; refine Calls.mono (Hvd.out _) ?_; rintro e wx2 ⟨rfl, hbx⟩; obtain ⟨hcx, hfx⟩ := bcell hbx; have hsx := hbx.size))
                    go_split_ands
                    next hbl2 k1 k2 =>
                      go_wp2_with fail
                      refine Calls.mono (Hcomp.out _ hbl2 k1 k2) ?_
                      rintro e w9 ⟨rfl, hb9⟩
                      have hbl9 : Below w.heap.size w w9 := below_callS hbl2 hb9
                      replace k1 := k1.keep hb9
                      replace k2 := k2.keep hb9
                      go_wp2
                      first
                      | (go_ret; exact ⟨ret_bool (by rw [HB'.out, rall_false hlt (by rw [Hat.out, Tin.out, Tdup.out, Hv.out, Tq.out]; rfl)]), hbl9⟩)
                      | (go_roundw; (case rel => exact ⟨k + 1, by omega, by go_num, hbl9, Lib.hid k1, Lib.hid k2, rall_step A.out (by rw [Hat.out, Tin.out, Tdup.out, Hv.out, Tq.out]; rfl)⟩); (case measure => simp [intOf]; omega))
                · have Hvd := Lib.hid (fun (wx : World) => (show Calls Try.prog 60 #[.agg #[.int .i64 l, .int .i64 a, .int .i64 m], .int .i64 y] wx fun e w' => e = .returned (.int .i64 2) ∧ Below wx.heap.size wx w' from hv ▸ impl_verdict))
                  have Hv := Lib.hid hv
                  clear hv
                  go_wp2_with fail
                  refine Calls.mono (impl_within) ?_
                  rintro e _ ⟨rfl, rfl⟩
                  rw [Tin.out]
                  go_wp2_with fail
                  refine Calls.mono (slices_Contains_i64 ((HS.out.keep (by repeat (first | exact Below.refl _ _ | assumption | refine below_allocS ?_ _ | refine below_callS ?_ (by assumption) | (refine Below.alloc ?_ (by first | omega | (simp; done) | (simp; omega)) _) | (refine Below.setCell ?_ (by first | omega | (simp; done) | (simp; omega)) _) | refine Below.drew ?_ | refine below_drewN ?_ _ | (refine below_call ?_ (by assumption) (by first | omega | (simp; done) | (simp; omega))) | (refine Below.trans ?_ (by assumption))))).take (by omega)) (by omega)) ?_
                  rintro e _ ⟨rfl, rfl⟩
                  rw [Tdup.out]
                  go_wp2
                  go_region_held3 (fun wx => wx.cell? ⟨w.heap.size, 0, none⟩ = some (.int .i64 l) ∧ wx.cell? ⟨w.heap.size, 1, none⟩ = some (.int .i64 a) ∧ wx.cell? ⟨w.heap.size, 2, none⟩ = some (.int .i64 m) ∧ wx.cell? ⟨w.heap.size + 1, 0, none⟩ = some (.slice (some ⟨b', off', none⟩) ns c) ∧ wx.cell? ⟨b', off' + k, none⟩ = some (.int .i64 y) ∧ w.heap.size < wx.heap.size ∧ w.heap.size + 1 < wx.heap.size ∧ b' < wx.heap.size ∧ Below w.heap.size w wx ∧ Blk wx w.heap.size #[.int .i64 l, .int .i64 a, .int .i64 m] 31 ∧ Blk wx (w.heap.size + 1) #[.slice (some ⟨b', off', none⟩) ns c] 22) (((try go_split_ands); (repeat' apply And.intro) <;> first | assumption | exact Blk.keep (by assumption) hbx | exact Blk.drew (by assumption) | exact Blk.drew (Blk.made _ _ _) | exact Below.drew (by assumption) | exact Below.drew (below_allocS (by first | exact Below.refl _ _ | assumption) _) | exact below_callS (by assumption) hbx | exact below_call (by assumption) hbx (Below.size (by assumption)) | exact (hcx _ _ (by assumption)).trans (by assumption) | omega | (simp [*]; done) | (simp; omega))) (first | (go_at_call 60; refine Calls.mono (Hvd.out _) ?_; rintro e wx2 ⟨rfl, hbx⟩; obtain ⟨hcx, hfx⟩ := bcell hbx; have hsx := hbx.size))
                  go_split_ands
                  next hbl2 k1 k2 =>
                    go_wp2
                    go_roundw
                    case rel => exact ⟨k + 1, by omega, by go_num, hbl2, Lib.hid k1, Lib.hid k2, rall_step A.out (by rw [Hat.out, Tin.out, Tdup.out, Hv.out]; rfl)⟩
                    case measure => simp [intOf]; omega
                · have Hvd := Lib.hid (fun (wx : World) => (show Calls Try.prog 60 #[.agg #[.int .i64 l, .int .i64 a, .int .i64 m], .int .i64 y] wx fun e w' => e = .returned (.int .i64 3) ∧ Below wx.heap.size wx w' from hv ▸ impl_verdict))
                  have Hv := Lib.hid hv
                  clear hv
                  go_wp2_with fail
                  refine Calls.mono (impl_within) ?_
                  rintro e _ ⟨rfl, rfl⟩
                  rw [Tin.out]
                  go_wp2_with fail
                  refine Calls.mono (slices_Contains_i64 ((HS.out.keep (by repeat (first | exact Below.refl _ _ | assumption | refine below_allocS ?_ _ | refine below_callS ?_ (by assumption) | (refine Below.alloc ?_ (by first | omega | (simp; done) | (simp; omega)) _) | (refine Below.setCell ?_ (by first | omega | (simp; done) | (simp; omega)) _) | refine Below.drew ?_ | refine below_drewN ?_ _ | (refine below_call ?_ (by assumption) (by first | omega | (simp; done) | (simp; omega))) | (refine Below.trans ?_ (by assumption))))).take (by omega)) (by omega)) ?_
                  rintro e _ ⟨rfl, rfl⟩
                  rw [Tdup.out]
                  go_wp2
                  go_region_held3 (fun wx => wx.cell? ⟨w.heap.size, 0, none⟩ = some (.int .i64 l) ∧ wx.cell? ⟨w.heap.size, 1, none⟩ = some (.int .i64 a) ∧ wx.cell? ⟨w.heap.size, 2, none⟩ = some (.int .i64 m) ∧ wx.cell? ⟨w.heap.size + 1, 0, none⟩ = some (.slice (some ⟨b', off', none⟩) ns c) ∧ wx.cell? ⟨b', off' + k, none⟩ = some (.int .i64 y) ∧ w.heap.size < wx.heap.size ∧ w.heap.size + 1 < wx.heap.size ∧ b' < wx.heap.size ∧ Below w.heap.size w wx ∧ Blk wx w.heap.size #[.int .i64 l, .int .i64 a, .int .i64 m] 31 ∧ Blk wx (w.heap.size + 1) #[.slice (some ⟨b', off', none⟩) ns c] 22) (((try go_split_ands); (repeat' apply And.intro) <;> first | assumption | exact Blk.keep (by assumption) hbx | exact Blk.drew (by assumption) | exact Blk.drew (Blk.made _ _ _) | exact Below.drew (by assumption) | exact Below.drew (below_allocS (by first | exact Below.refl _ _ | assumption) _) | exact below_callS (by assumption) hbx | exact below_call (by assumption) hbx (Below.size (by assumption)) | exact (hcx _ _ (by assumption)).trans (by assumption) | omega | (simp [*]; done) | (simp; omega))) (first | (go_at_call 60; refine Calls.mono (Hvd.out _) ?_; rintro e wx2 ⟨rfl, hbx⟩; obtain ⟨hcx, hfx⟩ := bcell hbx; have hsx := hbx.size))
                  go_split_ands
                  next hbl2 k1 k2 =>
                    go_wp2
                    go_ret
                    exact ⟨ret_bool (by rw [HB'.out, rall_false hlt (by rw [Hat.out, Tin.out, Tdup.out, Hv.out]; rfl)]), by assumption⟩
              · have Tin := Lib.hid tin
                have Tdup := Lib.hid tdup
                clear tin tdup
                go_wp2_with fail
                refine Calls.mono (impl_within) ?_
                rintro e _ ⟨rfl, rfl⟩
                rw [Tin.out]
                go_wp2_with fail
                refine Calls.mono (slices_Contains_i64 ((HS.out.keep (by repeat (first | exact Below.refl _ _ | assumption | refine below_allocS ?_ _ | refine below_callS ?_ (by assumption) | (refine Below.alloc ?_ (by first | omega | (simp; done) | (simp; omega)) _) | (refine Below.setCell ?_ (by first | omega | (simp; done) | (simp; omega)) _) | refine Below.drew ?_ | refine below_drewN ?_ _ | (refine below_call ?_ (by assumption) (by first | omega | (simp; done) | (simp; omega))) | (refine Below.trans ?_ (by assumption))))).take (by omega)) (by omega)) ?_
                rintro e _ ⟨rfl, rfl⟩
                rw [Tdup.out]
                go_wp2
                go_ret
                exact ⟨ret_bool (by rw [HB'.out, rall_false hlt (by rw [Hat.out, Tin.out, Tdup.out]; rfl)]), hbl⟩
          · go_wp2
            go_ret
            have e : k = ns := by omega
            have h1 := A.out
            rw [e] at h1
            exact ⟨ret_bool (by rw [HB'.out, h1]), hbl⟩
      · have T3 := Lib.hid (show (ns == n) = false by simp at t3 ⊢; omega)
        go_enter Try.func30, Try.ntmps30
        go_wp2_with fail
        refine Calls.mono (H1.out _ (by repeat (first | exact Below.refl _ _ | assumption | refine below_allocS ?_ _ | refine below_callS ?_ (by assumption) | (refine Below.alloc ?_ (by first | omega | (simp; done) | (simp; omega)) _) | (refine Below.setCell ?_ (by first | omega | (simp; done) | (simp; omega)) _) | refine Below.drew ?_ | refine below_drewN ?_ _ | (refine below_call ?_ (by assumption) (by first | omega | (simp; done) | (simp; omega))) | (refine Below.trans ?_ (by assumption))))) ?_
        rintro e w1 ⟨rfl, hb_w1⟩
        obtain ⟨hc_w1, hf_w1⟩ := bcell hb_w1
        have hs_w1 := hb_w1.size
        simp at hs_w1
        go_wp2_with fail
        refine Calls.mono (impl_isRowCount) ?_
        rintro e _ ⟨rfl, rfl⟩
        rw [T2.out]
        go_wp2
        go_ret
        exact ⟨ret_bool (by rw [HB.out, T3.out]; simp), by repeat (first | exact Below.refl _ _ | assumption | refine below_allocS ?_ _ | refine below_callS ?_ (by assumption) | (refine Below.alloc ?_ (by first | omega | (simp; done) | (simp; omega)) _) | (refine Below.setCell ?_ (by first | omega | (simp; done) | (simp; omega)) _) | refine Below.drew ?_ | refine below_drewN ?_ _ | (refine below_call ?_ (by assumption) (by first | omega | (simp; done) | (simp; omega))) | (refine Below.trans ?_ (by assumption)))⟩
  · have T1 := Lib.hid (show (code == 0) = false by simpa using t1)
    go_enter Try.func30, Try.ntmps30
    go_wp2_with fail
    refine Calls.mono (H1.out _ (by repeat (first | exact Below.refl _ _ | assumption | refine below_allocS ?_ _ | refine below_callS ?_ (by assumption) | (refine Below.alloc ?_ (by first | omega | (simp; done) | (simp; omega)) _) | (refine Below.setCell ?_ (by first | omega | (simp; done) | (simp; omega)) _) | refine Below.drew ?_ | refine below_drewN ?_ _ | (refine below_call ?_ (by assumption) (by first | omega | (simp; done) | (simp; omega))) | (refine Below.trans ?_ (by assumption))))) ?_
    rintro e w1 ⟨rfl, hb_w1⟩
    obtain ⟨hc_w1, hf_w1⟩ := bcell hb_w1
    have hs_w1 := hb_w1.size
    go_wp2
    go_ret
    exact ⟨ret_bool (by rw [HB.out, T1.out]; simp), by repeat (first | exact Below.refl _ _ | assumption | refine below_allocS ?_ _ | refine below_callS ?_ (by assumption) | (refine Below.alloc ?_ (by first | omega | (simp; done) | (simp; omega)) _) | (refine Below.setCell ?_ (by first | omega | (simp; done) | (simp; omega)) _) | refine Below.drew ?_ | refine below_drewN ?_ _ | (refine below_call ?_ (by assumption) (by first | omega | (simp; done) | (simp; omega))) | (refine Below.trans ?_ (by assumption)))⟩
end Go.Proofs.Ytijdcacplibmhaa
