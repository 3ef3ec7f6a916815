/- The first unsafe trace of a ride model: the program, walked.; The first unsafe trace of a ride model: the program's function, walked. -/
import Derived.Test.YtfnamjkmkoldeaaGreatDoorQp
import Derived.Test.YtfnamjkmkoldeaaGreatDoorSu
namespace Go.Proofs.YtfnamjkmkoldeaaGreatDoor
open Go.RowKit
set_option linter.unusedVariables false
set_option linter.unusedSimpArgs false
/-- a found state, its values in the world w0 -/
def okQ (w0 : World) (P : List Int → Prop) (x : QM × SN) : Prop := Ints w0 x.1.a x.1.n x.1.c x.2.v ∧ P x.2.v
theorem encQ_len (x : QM × SN) : (encQ x).length = 4 := rfl
theorem bcell2 {B : Nat} {W w1 : World} (hb : Below B W w1) : (∀ b o, b < B → w1.cell? ⟨b, o, none⟩ = W.cell? ⟨b, o, none⟩) ∧ (∀ b o, b < B → w1.frozen? ⟨b, o, none⟩ = W.frozen? ⟨b, o, none⟩) :=
  ⟨fun b o h => hb.cell (p := ⟨b, o, none⟩) h, fun b o h => hb.frozen (p := ⟨b, o, none⟩) h⟩
theorem QOwn.fq {w : World} {lo : Nat} {a : Option Addr} {n c : Nat} {l : List (QM × SN)} {P : List Int → Prop} (h : QOwn w lo a n c l) (hP : ∀ x ∈ l, P x.2.v) : Flats 4 encQ (okQ w P) w a n c l :=
  have f := h.row.flats
  ⟨f.len, f.cap, f.pos, fun x hx => ⟨(h.each x hx).ints, hP x hx⟩, f.nil⟩
theorem FQ.get {w0 w : World} {P : List Int → Prop} {a : Option Addr} {n c : Nat} {l : List (QM × SN)} (h : Flats 4 encQ (okQ w0 P) w a n c l) {i : Nat} (hi : i < n) :
    ∃ b off R y, a = some ⟨b, off, none⟩ ∧ b < w.heap.size ∧ l[i]? = some (R, y) ∧ okQ w0 P (R, y) ∧ w.cell? ⟨b, off + i * 4, none⟩ = some (.slice R.a R.n R.c) ∧ w.cell? ⟨b, off + i * 4 + 1, none⟩ = some (.int .i64 y.fr) ∧ w.cell? ⟨b, off + i * 4 + 2, none⟩ = some (.int .i64 y.ru) ∧ w.cell? ⟨b, off + i * 4 + 3, none⟩ = some (.int .i64 y.dp) := by
  obtain ⟨b, off, x, h1, h2, h3, h4, h5⟩ := h.at hi
  exact ⟨b, off, x.1, x.2, h1, h2, h3, h4, h5 0 _ rfl, h5 1 _ rfl, h5 2 _ rfl, h5 3 _ rfl⟩
set_option maxHeartbeats 1000000 in
theorem slices_IndexFunc_reached {g : Nat} {lb : Array Value} {p : QM × SN → Bool} {P : List Int → Prop} {a : Option Addr} {n c : Nat} {l : List (QM × SN)} {w0 w : World}
    (eg : ∀ args w, (callFunc g args).run Tryz.prog w = .ok (.enter g args) w) (hp : PredF Tryz.prog g lb encQ (okQ w0 P) p w) (hI : Flats 4 encQ (okQ w0 P) w a n c l) (hn : n ≤ 1048576) :
    Calls Tryz.prog 106 #[.slice a n c, .func (.func g) #[] lb] w fun e w' => e = .returned (.int .i64 (idxF p l)) ∧ Below w.heap.size w w' := by
  have HP := Lib.hid hp
  clear hp
  go_enter Tryz.func106, Tryz.ntmps106
  go_wp2
  go_loopg [5, 8] n (fun gg _ s8 wr => ∃ kk : Nat, kk ≤ n ∧ n - kk ≤ gg ∧ s8 = .int .i64 kk ∧ Below w.heap.size w wr ∧ Hid ((l.take kk).any p = false))
  case atStart => exact ⟨0, Nat.zero_le _, by omega, rfl, Below.refl _ _, rfl⟩
  case round =>
    obtain ⟨kk, hkk, hg, rfl, hbl, A⟩ := hrel
    have HI := Lib.hid hI
    by_cases hlt : kk < n
    · obtain ⟨b, off, R, r, rfl, hb, hx, hwf, c0, c1, c2, c3⟩ := FQ.get (hI.keep hbl) hlt
      have Hx := Lib.hid hx
      have hcall := HP.out _ (R, r) hwf hbl
      clear hx hI hwf
      cases hq : p (R, r) with
      | true =>
        have Hq := Lib.hid hq
        rw [hq] at hcall
        clear hq
        go_wp2_with (go_at_fn g; refine hcall.mono ?_; rintro e w1 ⟨rfl, hb1⟩)
        go_ret
        exact ⟨ret_int (by rw [idxF_hit Hx.out Hq.out A.out]), below_call hbl hb1 hbl.size⟩
      | false =>
        have Hq := Lib.hid hq
        rw [hq] at hcall
        clear hq
        go_wp2_with (go_at_fn g; refine hcall.mono ?_; rintro e w1 ⟨rfl, hb1⟩)
        go_roundg (n - (kk + 1))
        case measure => omega
        case rel => exact ⟨kk + 1, by omega, by omega, by go_num, below_call hbl hb1 hbl.size, any_take_step Hx.out A.out Hq.out⟩
    · clear hI
      go_wp2
      go_ret
      have e : l.take kk = l := take_len (by have := HI.out.len; omega)
      have h1 := A.out
      rw [e] at h1
      exact ⟨ret_int (by rw [idxF_miss h1]), hbl⟩
set_option maxHeartbeats 1000000 in
theorem impl_isUnsafe {B n c vn vc : Nat} {a va : Option Addr} {v : List Int} {w : World} (hV : Ints w va vn vc v) (hvn : vn ≤ 1048576) (hnv : n ≤ vn) (hn : n ≤ 4) (hB : 2 ≤ B) (hB8 : B ≤ 8) (hp : ∀ x ∈ v.take n, 0 ≤ x ∧ x < 3 * (B : Int)) :
    Calls Tryz.prog 48 #[.agg #[.int .i64 (B : Int), .slice a n c], .slice va vn vc] w fun e w' => e = .returned (.bool (unsN B n v)) ∧ Below w.heap.size w w' := by
  have hbA : Below w.heap.size w (w.alloc (.cells #[.int .i64 (B : Int), .slice a n c] 28)) := by repeat (first | exact Below.refl _ _ | assumption | refine below_allocS ?_ _ | refine below_callS ?_ (by assumption) | (refine Below.alloc ?_ (by first | omega | (simp; done) | (simp; omega)) _) | (refine Below.setCell ?_ (by first | omega | (simp; done) | (simp; omega)) _) | refine Below.drew ?_ | refine below_drewN ?_ _ | (refine below_call ?_ (by assumption) (by first | omega | (simp; done) | (simp; omega))) | (refine Below.trans ?_ (by assumption)))
  have K1 := Lib.hid (impl_trafficIn (b := (B : Int)) (a := a) (c := c) (hV.keep hbA) hnv hvn)
  have HP := Lib.hid hp
  have hl : (v.take n).length = n := by rw [List.length_take, hV.len]; omega
  have HL := Lib.hid hl
  clear hV hp hl
  go_enter Tryz.func48, Tryz.ntmps48
  go_wp2_with fail
  refine Calls.mono K1.out ?_
  rintro e w1 ⟨n1, a1, c1, rfl, hb1, ho1⟩
  have hn1 : n1 = n := by rw [← ho1.len, HL.out]
  subst hn1
  have O := Lib.hid ho1
  have hbl : Below w.heap.size w w1 := by repeat (first | exact Below.refl _ _ | assumption | refine below_allocS ?_ _ | refine below_callS ?_ (by assumption) | (refine Below.alloc ?_ (by first | omega | (simp; done) | (simp; omega)) _) | (refine Below.setCell ?_ (by first | omega | (simp; done) | (simp; omega)) _) | refine Below.drew ?_ | refine below_drewN ?_ _ | (refine below_call ?_ (by assumption) (by first | omega | (simp; done) | (simp; omega))) | (refine Below.trans ?_ (by assumption)))
  clear ho1 hb1 hbA
  go_wp2_with fail
  refine Calls.mono (impl_isSafe O.out.ints hn hB hB8 HP.out) ?_
  rintro e w2 ⟨rfl, hb2⟩
  have hbl2 : Below w.heap.size w w2 := below_call hbl hb2 hbl.size
  go_wp2
  go_ret
  exact ⟨by rfl, hbl2⟩
set_option maxHeartbeats 1000000 in
theorem impl_firstOf_1 {B n c t : Nat} {a : Option Addr} {x : QM × SN} {w0 w : World} (hB : Blk w t #[.func (.func 48) #[.agg #[.int .i64 (B : Int), .slice a n c]] #[]] 81)
    (hx : okQ w0 (fun v => n ≤ v.length ∧ v.length ≤ 1048576 ∧ ∀ z ∈ v.take n, 0 ≤ z ∧ z < 3 * (B : Int)) x) (hb : Below w0.heap.size w0 w) (hn : n ≤ 4) (hB2 : 2 ≤ B) (hB8 : B ≤ 8) :
    Calls Tryz.prog 107 #[.agg (encQ x).toArray, .pointer (some ⟨t, 0, none⟩)] w fun e w' => e = .returned (.bool (unsN B n x.2.v)) ∧ Below w.heap.size w w' := by
  obtain ⟨R, y⟩ := x
  obtain ⟨hv, h1, h2, h3⟩ := hx
  simp only at hv h1 h2 h3
  have hl := hv.len
  have K1 := Lib.hid (fun (wx : World) (hb' : Below w.heap.size w wx) => impl_isUnsafe (B := B) (n := n) (c := c) (a := a) ((hv.keep hb).keep hb') (by omega) (by omega) hn hB2 hB8 h3)
  have c0 := hB.cell 0
  have cl := hB.lt
  simp at c0
  clear hB hv
  show Calls _ _ #[.agg #[.slice R.a R.n R.c, .int .i64 y.fr, .int .i64 y.ru, .int .i64 y.dp], .pointer (some ⟨t, 0, none⟩)] _ _
  go_enter Tryz.func107, Tryz.ntmps107
  go_wp2_with fail
  refine Calls.mono (K1.out _ (by repeat (first | exact Below.refl _ _ | assumption | refine below_allocS ?_ _ | refine below_callS ?_ (by assumption) | (refine Below.alloc ?_ (by first | omega | (simp; done) | (simp; omega)) _) | (refine Below.setCell ?_ (by first | omega | (simp; done) | (simp; omega)) _) | refine Below.drew ?_ | refine below_drewN ?_ _ | (refine below_call ?_ (by assumption) (by first | omega | (simp; done) | (simp; omega))) | (refine Below.trans ?_ (by assumption))))) ?_
  rintro e w1 ⟨rfl, hb1⟩
  have hbl : Below w.heap.size w w1 := by repeat (first | exact Below.refl _ _ | assumption | refine below_allocS ?_ _ | refine below_callS ?_ (by assumption) | (refine Below.alloc ?_ (by first | omega | (simp; done) | (simp; omega)) _) | (refine Below.setCell ?_ (by first | omega | (simp; done) | (simp; omega)) _) | refine Below.drew ?_ | refine below_drewN ?_ _ | (refine below_call ?_ (by assumption) (by first | omega | (simp; done) | (simp; omega))) | (refine Below.trans ?_ (by assumption)))
  go_wp2
  go_ret
  exact ⟨rfl, hbl⟩
theorem impl_firstOf {B n c n' c' lo : Nat} {a a' : Option Addr} {l : List (QM × SN)} {w : World} (hQ : QOwn w lo a' n' c' l) (hP : ∀ x ∈ l, n ≤ x.2.v.length ∧ x.2.v.length ≤ 1048576 ∧ ∀ z ∈ x.2.v.take n, 0 ≤ z ∧ z < 3 * (B : Int)) (hn' : n' ≤ 1048576) (hn : n ≤ 4) (hB2 : 2 ≤ B) (hB8 : B ≤ 8) :
    Calls Tryz.prog 54 #[.slice a' n' c', .func (.func 48) #[.agg #[.int .i64 (B : Int), .slice a n c]] #[]] w fun e w' => e = .returned (.int .i64 (idxF (fun x => unsN B n x.2.v) l)) ∧ Below w.heap.size w w' := by
  have hbA : Below w.heap.size w (w.alloc (.cells #[.func (.func 48) #[.agg #[.int .i64 (B : Int), .slice a n c]] #[]] 81)) := by repeat (first | exact Below.refl _ _ | assumption | refine below_allocS ?_ _ | refine below_callS ?_ (by assumption) | (refine Below.alloc ?_ (by first | omega | (simp; done) | (simp; omega)) _) | (refine Below.setCell ?_ (by first | omega | (simp; done) | (simp; omega)) _) | refine Below.drew ?_ | refine below_drewN ?_ _ | (refine below_call ?_ (by assumption) (by first | omega | (simp; done) | (simp; omega))) | (refine Below.trans ?_ (by assumption)))
  have hp : PredF Tryz.prog 107 #[.pointer (some ⟨w.heap.size, 0, none⟩)] encQ (okQ w (fun v => n ≤ v.length ∧ v.length ≤ 1048576 ∧ ∀ z ∈ v.take n, 0 ≤ z ∧ z < 3 * (B : Int))) (fun x => unsN B n x.2.v) (w.alloc (.cells #[.func (.func 48) #[.agg #[.int .i64 (B : Int), .slice a n c]] #[]] 81)) := fun W x hx hb =>
    impl_firstOf_1 ((Blk.made w _ _).keep hb) hx (below_callS hbA hb) hn hB2 hB8
  have hc := slices_IndexFunc_reached (fun _ _ => by kernel_rfl) hp ((hQ.fq hP).keep hbA) hn'
  have HC := Lib.hid hc
  clear hc hp hQ hP
  go_enter Tryz.func54, Tryz.ntmps54
  go_wp2_with fail
  refine Calls.mono HC.out ?_
  rintro e w1 ⟨rfl, hb1⟩
  have hbl : Below w.heap.size w w1 := by repeat (first | exact Below.refl _ _ | assumption | refine below_allocS ?_ _ | refine below_callS ?_ (by assumption) | (refine Below.alloc ?_ (by first | omega | (simp; done) | (simp; omega)) _) | (refine Below.setCell ?_ (by first | omega | (simp; done) | (simp; omega)) _) | refine Below.drew ?_ | refine below_drewN ?_ _ | (refine below_call ?_ (by assumption) (by first | omega | (simp; done) | (simp; omega))) | (refine Below.trans ?_ (by assumption)))
  go_wp2
  go_ret
  exact ⟨rfl, hbl⟩
set_option maxHeartbeats 2000000 in
theorem impl_traceTo {n c lo k : Nat} {a : Option Addr} {sz : List Int} {l : List (QM × SN)} {x : SN} {w : World} (hQ : QOwn w lo a n c l) (hS : SNs sz (l.map (·.2))) (hx : (l.map (·.2))[k]? = some x) (hn : n ≤ 1048576) (hu : ∀ y ∈ l.map (·.2), I64 y.ru) :
    Calls Tryz.prog 55 #[.slice a n c, .int .i64 (k : Int)] w fun e w' => ∃ a' n' c', e = .returned (.slice a' n' c') ∧ OwnI 2 w' w.heap.size a' n' c' x.tr ∧ Below w.heap.size w w' := by
  have hkn : k < n := by rw [← hQ.row.flats.len]; have := (List.getElem?_eq_some_iff.1 hx).1; rw [List.length_map] at this; exact this
  have HQ := Lib.hid hQ
  have HS := Lib.hid hS
  have HU := Lib.hid hu
  have A0 := Lib.hid (show ∃ y, (l.map (·.2))[k]? = some y ∧ y.tr ++ ([] : List Int).reverse = x.tr from ⟨x, hx, by simp⟩)
  clear hQ hS hx hu
  go_enter Tryz.func55, Tryz.ntmps55
  go_wp2_with fail
  go_loopw [1, 5] (fun s1 s5 wr => ∃ (j nt ct : Nat) (ad : Option Addr) (t : List Int), s1 = .int .i64 j ∧ s5 = .slice ad nt ct ∧ j < n ∧ nt + j ≤ n ∧ Hid (Below w.heap.size w wr) ∧ Hid (OwnI 2 wr w.heap.size ad nt ct t) ∧ Hid (∃ y, (l.map (·.2))[j]? = some y ∧ y.tr ++ t.reverse = x.tr)) (fun s1 _ _ => (intOf s1).toNat)
  case atStart => exact ⟨k, 0, 0, none, [], rfl, rfl, hkn, by omega, Lib.hid (Below.refl _ _), Lib.hid (OwnI.nil _ _ _), A0⟩
  case round =>
    clear A0
    obtain ⟨j, nt, ct, ad, t, rfl, rfl, hj, hnt, HB, O, A⟩ := hrel
    have hj' : (j : Int) < (n : Int) := by omega
    have hj0 : (0 : Int) ≤ (j : Int) := by omega
    obtain ⟨y, hy, hyt⟩ := A.out
    obtain ⟨b, off, R, y', rfl, hb, hly, _, q0, q1, q2, q3⟩ := HQ.out.get hj
    have hyy : y' = y := by
      have h : (l.map (·.2))[j]? = some y' := by rw [List.getElem?_map, hly]; rfl
      rw [hy] at h; simpa using h.symm
    subst hyy
    obtain ⟨hcr, _⟩ := bcell2 HB.out
    have c1 := (hcr _ _ hb).trans q1
    have c2 := (hcr _ _ hb).trans q2
    have hbr := Nat.lt_of_lt_of_le hb HB.out.size
    have hsr := HB.out.size
    rcases HS.out.fr j y' hy with ⟨hf, htr⟩ | ⟨k2, z, hf, hk2, hz, htr⟩
    · have HT := Lib.hid (show t.reverse = x.tr by rw [← hyt, htr]; rfl)
      rw [hf] at c1
      clear q0 q1 q2 q3 hy hyt hly hf htr hcr A
      go_wp2_with fail
      refine Calls.mono (slices_Reverse_i64 O.out (by omega)) ?_
      rintro e w2 ⟨rfl, ht, ho⟩
      have HTT := Lib.hid ht
      have HO := Lib.hid ho
      have hbk := O.out.blk
      have HBB := Lib.hid (HTT.out.below HB.out HB.out.size (fun g e => (hbk g e).1))
      clear ht ho hbk
      go_wp2
      go_ret
      exact ⟨_, _, _, rfl, by rw [← HT.out]; exact HO.out, HBB.out⟩
    · have hru : I64 y'.ru := HU.out y' (List.mem_of_getElem? hy)
      have Q1 := Lib.hid q1
      have HB0 := Lib.hid hb
      have HZ := Lib.hid (show ∃ y, (l.map (·.2))[k2]? = some y ∧ y.tr ++ (t ++ [y'.ru]).reverse = x.tr from ⟨z, hz, by rw [← hyt, htr]; simp⟩)
      have hk0 : (0 : Int) ≤ (k2 : Int) := by omega
      rw [hf] at c1 Q1
      clear q0 q1 q2 q3 hy hyt hly hz htr hf hcr A
      go_wp2_with (at_builtin; (refine appI1 rfl _ _ rfl Tryz.underlying22 Tryz.infoi64 w.heap.size _ _ _ _ O.out rfl _ rfl rfl hru (by omega) hsr ?_; intro g' c3 wn ho hb4 ht hat hsn; have S := Lib.hid ho; have HBn := Lib.hid (HB.out.trans hb4); have c1n := ((bcell2 HBn.out).1 _ _ HB0.out).trans Q1.out; have hbn := Nat.lt_of_lt_of_le HB0.out HBn.out.size; clear ho ht hb4 hat))
      go_roundw
      case rel => exact ⟨k2, nt + 1, _, _, _, rfl, rfl, by omega, by omega, HBn, S, HZ⟩
      case measure => simp [intOf]; omega
end Go.Proofs.YtfnamjkmkoldeaaGreatDoor
namespace Go.Proofs.YtfnamjkmkoldeaaGreatDoor
open Go.RowKit
set_option linter.unusedVariables false
set_option linter.unusedSimpArgs false
theorem idxF_map {α β : Type} (f : α → β) (p : β → Bool) : ∀ l : List α, idxF (fun x => p (f x)) l = idxF p (l.map f)
  | [] => rfl
  | x :: r => by rw [idxF, List.map_cons, idxF, idxF_map f p r]
set_option maxHeartbeats 4000000 in
theorem impl_FirstUnsafeTrace {b bud : Int} {a : Option Addr} {n c : Nat} {l : List Int} {sec : Bool} {w : World} (hT : Tab w 0 (strsCells ruleNm)) (hI : Ints w a n c l) (hn : n ≤ 1048576) :
    Calls Tryz.prog 20 #[.agg #[.int .i64 b, .slice a n c], .int .i64 bud, .bool sec] w (FuRet 2 w (fuL b l bud sec) (fuC b l bud sec)) := by
  have K1 := Lib.hid (fun (wx : World) (hb : Below w.heap.size w wx) => impl_exploreRide (b := b) (bud := bud) (sec := sec) (hT.keep hb) (hI.keep hb) hn)
  have X := Lib.hid (Blk.made w #[.int .i64 b, .slice a n c] 28)
  have hbA : Below w.heap.size w (w.alloc (.cells #[.int .i64 b, .slice a n c] 28)) := by repeat (first | exact Below.refl _ _ | assumption | refine below_allocS ?_ _ | refine below_callS ?_ (by assumption) | (refine Below.alloc ?_ (by first | omega | (simp; done) | (simp; omega)) _) | (refine Below.setCell ?_ (by first | omega | (simp; done) | (simp; omega)) _) | refine Below.drew ?_ | refine below_drewN ?_ _ | (refine below_call ?_ (by assumption) (by first | omega | (simp; done) | (simp; omega))) | (refine Below.trans ?_ (by assumption)))
  have hnl := hI.len
  clear hT hI
  by_cases h0 : rsC b l bud sec = 0
  · obtain ⟨g1, g2, g3, g4, g5, g6⟩ := rdC_ok (rsC_zero h0)
    have hsz := (ride_gives (sec := sec) (rsC_zero h0)).1
    obtain ⟨B, rfl⟩ := Int.eq_ofNat_of_zero_le (show 0 ≤ b by omega)
    rw [Int.toNat_natCast] at hsz
    have HSZ := Lib.hid hsz
    have H0 := Lib.hid h0
    have HNL := Lib.hid hnl
    have hn4 : n ≤ 4 := by omega
    have hB2 : 2 ≤ B := by omega
    have hB8 : B ≤ 8 := by omega
    rw [h0] at K1
    clear hsz hnl
    go_enter Tryz.func20, Tryz.ntmps20
    go_wp2_with fail
    refine Calls.mono (K1.out _ hbA) ?_
    rintro e w1 ⟨hb1, a1, n1, c1, l1, rfl, hQ, hR⟩
    have hR := hR rfl
    have X1 := Lib.hid (X.out.keep hb1)
    have HQ := Lib.hid hQ
    have HR := Lib.hid hR
    have HB1 := Lib.hid (show Below w.heap.size w w1 by repeat (first | exact Below.refl _ _ | assumption | refine below_allocS ?_ _ | refine below_callS ?_ (by assumption) | (refine Below.alloc ?_ (by first | omega | (simp; done) | (simp; omega)) _) | (refine Below.setCell ?_ (by first | omega | (simp; done) | (simp; omega)) _) | refine Below.drew ?_ | refine below_drewN ?_ _ | (refine below_call ?_ (by assumption) (by first | omega | (simp; done) | (simp; omega))) | (refine Below.trans ?_ (by assumption))))
    obtain ⟨hns, hL4⟩ := rs_sns (rsC_zero h0) hR
    have NS := Lib.hid hns
    have hn1 : n1 ≤ 4000 := by rw [← hQ.row.flats.len]; rw [List.length_map] at hL4; exact hL4
    have hP : ∀ x ∈ l1, n ≤ x.2.v.length ∧ x.2.v.length ≤ 1048576 ∧ ∀ z ∈ x.2.v.take n, 0 ≤ z ∧ z < 3 * (B : Int) := fun x hx => by
      have hsv := hns.sv x.2 (List.mem_map_of_mem hx)
      rw [HSZ.out] at hsv
      obtain ⟨_, t2, t3⟩ := sv_traf hB2 hB8 g3 g4 hsv
      rw [HNL.out] at t2 t3
      exact ⟨t2, by rw [hsv.1, sz_len]; omega, t3⟩
    have K2 := Lib.hid (fun (wx : World) (hb : Below w1.heap.size w1 wx) => impl_firstOf (B := B) (n := n) (c := c) (a := a) (hQ.keep hb) hP (by omega) hn4 hB2 hB8)
    have x0 := X1.out.cell 0
    have x1 := X1.out.cell 1
    have xl := X1.out.lt
    simp at x0 x1
    clear hb1 hQ hR hns hL4 hP hbA X h0 K1
    go_wp2_with fail
    refine Calls.mono (K2.out _ (Below.refl _ _)) ?_
    rintro e w2 ⟨rfl, hb2⟩
    have HB2 := Lib.hid (below_call HB1.out hb2 HB1.out.size)
    have Q2 := Lib.hid (HQ.out.keep hb2)
    have hIX := idxF_find (fun x : SN => unsN B n x.v) (l1.map (·.2))
    rw [← idxF_map (fun x : QM × SN => x.2) (fun x : SN => unsN B n x.v) l1] at hIX
    by_cases hneg : idxF (fun x : QM × SN => unsN B n x.2.v) l1 < 0
    · have hf := fu_miss (sec := sec) H0.out HR.out (by rw [Int.toNat_natCast, HNL.out]; exact find_miss (hIX.1 hneg))
      have HF := Lib.hid hf
      clear hIX hf x0 x1 xl hb2
      go_wp2
      go_ret2
      exact ⟨0, none, 0, by rw [HF.out.2]; rfl, HB2.out, by rw [HF.out.1]; exact OwnI.nil _ _ _⟩
    · obtain ⟨k, x, hk, hkx, hux, hany⟩ := hIX.2 (by omega)
      have hf := fu_hit (sec := sec) H0.out HR.out (by rw [Int.toNat_natCast, HNL.out]; exact find_hit hkx hux hany)
      have HF := Lib.hid hf
      have K3 := Lib.hid (impl_traceTo Q2.out NS.out hkx (by omega) (rs_ru (rsC_zero H0.out) HR.out))
      rw [hk]
      have hk0 : ¬ (k : Int) < 0 := by omega
      clear hIX hf x0 x1 xl hb2 hneg hk hkx hux hany
      go_wp2_with fail
      refine Calls.mono K3.out ?_
      rintro e w3 ⟨a3, n3, c3, rfl, ho3, hb3⟩
      have HO := Lib.hid ho3
      have HB3 := Lib.hid (below_call HB2.out hb3 HB2.out.size)
      have hs2 := HB2.out.size
      clear ho3 hb3
      go_wp2
      go_ret2
      exact ⟨_, _, _, by rw [HF.out.2]; rfl, HB3.out, by rw [HF.out.1]; exact HO.out.le hs2⟩
  · have HF := Lib.hid (fu_bad h0)
    have hc0 : (rsC b l bud sec != 0) = true := by simpa using h0
    go_enter Tryz.func20, Tryz.ntmps20
    go_wp2_with fail
    refine Calls.mono (K1.out _ hbA) ?_
    rintro e w1 ⟨hb1, a1, n1, c1, l1, rfl, hQ, hR⟩
    clear hQ hR
    have hb2 : Below w.heap.size w w1 := by repeat (first | exact Below.refl _ _ | assumption | refine below_allocS ?_ _ | refine below_callS ?_ (by assumption) | (refine Below.alloc ?_ (by first | omega | (simp; done) | (simp; omega)) _) | (refine Below.setCell ?_ (by first | omega | (simp; done) | (simp; omega)) _) | refine Below.drew ?_ | refine below_drewN ?_ _ | (refine below_call ?_ (by assumption) (by first | omega | (simp; done) | (simp; omega))) | (refine Below.trans ?_ (by assumption)))
    go_wp2
    go_ret2
    exact ⟨0, none, 0, by rw [HF.out.2]; rfl, hb2, by rw [HF.out.1]; exact OwnI.nil _ _ _⟩
end Go.Proofs.YtfnamjkmkoldeaaGreatDoor
