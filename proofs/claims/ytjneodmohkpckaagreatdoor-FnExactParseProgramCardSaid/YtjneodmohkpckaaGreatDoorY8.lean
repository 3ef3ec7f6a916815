/- The source of drawn numbers, walked.; What a draw leaves: the source alone has moved, all that is new is the call's own.; Draws: the steps of a walk, each for whatever world stands there. -/
import Derived.Test.YtjneodmohkpckaaGreatDoorYb1
import Derived.RegionTactic
import Derived.BigRegion
import Derived.Test.YtjneodmohkpckaaGreatDoorEx
namespace Go.Proofs.YtjneodmohkpckaaGreatDoor
open Go.RowKit
set_option linter.unusedVariables false
set_option linter.unusedSimpArgs false
instance I64.dec (x : Int) : Decidable (I64 x) := inferInstanceAs (Decidable (_ ∧ _))
/-- bytes that are read: '.slice a n c' -/
structure Byts (w : World) (a : Option Addr) (n c : Nat) : Prop where
  cap : n ≤ c
  pos : n = 0 ∨ ∃ b off, a = some ⟨b, off, none⟩ ∧ b < w.heap.size ∧ ∀ i, i < n → ∃ x : Int, 0 ≤ x ∧ x ≤ 255 ∧ w.cell? ⟨b, off + i, none⟩ = some (.int .u8 x)
theorem Byts.keep {w w' : World} {a : Option Addr} {n c : Nat} (h : Byts w a n c) (hb : Below w.heap.size w w') : Byts w' a n c := by
  refine ⟨h.cap, ?_⟩
  rcases h.pos with h0 | ⟨b, off, ha, hlt, hc⟩
  · exact .inl h0
  · exact .inr ⟨b, off, ha, Nat.lt_of_lt_of_le hlt hb.size, fun i hi => by obtain ⟨x, h1, h2, h3⟩ := hc i hi; exact ⟨x, h1, h2, (hb.cell (p := ⟨b, off + i, none⟩) hlt).trans h3⟩⟩
theorem Byts.at {w : World} {a : Option Addr} {n c : Nat} (h : Byts w a n c) {k : Nat} (hk : k < n) : ∃ b off x, a = some ⟨b, off, none⟩ ∧ b < w.heap.size ∧ (0 : Int) ≤ x ∧ x ≤ 255 ∧ w.cell? ⟨b, off + k, none⟩ = some (.int .u8 x) := by
  obtain ⟨b, off, ha, hlt, hc⟩ := h.pos.resolve_left (by omega)
  obtain ⟨x, h1, h2, h3⟩ := hc k hk
  exact ⟨b, off, x, ha, hlt, h1, h2, h3⟩
/-- bytes in blocks below lo -/
def BytsLo (w : World) (lo : Nat) (a : Option Addr) (n c : Nat) : Prop := Byts w a n c ∧ lo ≤ w.heap.size ∧ (n = 0 ∨ ∃ b off, a = some ⟨b, off, none⟩ ∧ b < lo)
theorem Byts.lo {w : World} {a : Option Addr} {n c : Nat} (h : Byts w a n c) : BytsLo w w.heap.size a n c :=
  ⟨h, Nat.le_refl _, h.pos.imp_right fun ⟨b, off, ha, hlt, _⟩ => ⟨b, off, ha, hlt⟩⟩
theorem BytsLo.below {w w' : World} {lo : Nat} {a : Option Addr} {n c : Nat} (h : BytsLo w lo a n c) (hb : Below lo w w') : BytsLo w' lo a n c := by
  obtain ⟨h1, h2, h3⟩ := h
  refine ⟨⟨h1.cap, ?_⟩, Nat.le_trans h2 hb.size, h3⟩
  rcases h3 with h0 | ⟨b, off, ha, hlt⟩
  · exact .inl h0
  · rcases h1.pos with h0 | ⟨b', off', ha', hlt', hc⟩
    · exact .inl h0
    · rw [ha] at ha'
      simp only [Option.some.injEq, Addr.mk.injEq, and_true] at ha'
      obtain ⟨rfl, rfl⟩ := ha'
      exact .inr ⟨b, off, ha, Nat.lt_of_lt_of_le hlt' hb.size, fun i hi => by obtain ⟨x, h1, h2, h3⟩ := hc i hi; exact ⟨x, h1, h2, (hb.cell (p := ⟨b, off + i, none⟩) hlt).trans h3⟩⟩
/-- block b is a source whose bytes lie below lo -/
def Src (T : TypeId) (w : World) (lo b : Nat) : Prop :=
  ∃ a n c p s, Blk w b #[.slice a n c, .int .i64 p, .int .i64 s] T ∧ BytsLo w lo a n c ∧ n ≤ 4096 ∧ 0 ≤ p ∧ p ≤ n ∧ 0 ≤ s ∧ s < 2147483647 ∧ lo ≤ b
theorem Src.lt {T : TypeId} {w : World} {lo b : Nat} (h : Src T w lo b) : lo ≤ b ∧ b < w.heap.size := by
  obtain ⟨a, n, c, p, s, h1, _, _, _, _, _, _, h2⟩ := h
  exact ⟨h2, h1.lt⟩
theorem Only.lower {lo hi : Nat} {w w' : World} (h : Only lo hi w w') (hl : lo ≤ w.heap.size) : Below lo w w' :=
  ⟨h.os, h.tape, h.output, h.size, fun k hk => h.block k (by omega) (.inl hk)⟩
/-- the source stays where other blocks from lo on are written -/
theorem Src.apart {T : TypeId} {w w' : World} {lo b l2 h2 : Nat} (h : Src T w lo b) (ho : Only l2 h2 w w') (hd : b < l2 ∨ h2 ≤ b) (hl : lo ≤ l2) : Src T w' lo b := by
  have hlt := h.lt
  obtain ⟨a, n, c, p, s, h1, h3, r⟩ := h
  refine ⟨a, n, c, p, s, h1.apart ho hd, h3.below ?_, r⟩
  exact ⟨ho.os, ho.tape, ho.output, ho.size, fun k hk => ho.block k (by omega) (.inl (by omega))⟩
theorem Src.keep {T : TypeId} {w w' : World} {lo b : Nat} (h : Src T w lo b) (hb : Below w.heap.size w w') : Src T w' lo b :=
  h.apart (Only.of_below (lo := w.heap.size) (hi := w.heap.size) hb) (.inl h.lt.2) (Nat.le_of_lt (Nat.lt_of_le_of_lt h.lt.1 h.lt.2))
theorem Src.alloc {T : TypeId} {w : World} {lo b : Nat} (h : Src T w lo b) (o : Obj) : Src T (w.alloc o) lo b := h.keep ((Below.refl _ _).alloc (Nat.le_refl _) o)
theorem Src.drewN {T : TypeId} {w : World} {lo b : Nat} (h : Src T w lo b) (n : Nat) : Src T (w.drewN n) lo b := h.keep ⟨rfl, rfl, rfl, Nat.le_refl _, fun _ _ => rfl⟩
theorem Src.drew {T : TypeId} {w : World} {lo b : Nat} (h : Src T w lo b) : Src T w.drew lo b := h.keep ⟨rfl, rfl, rfl, Nat.le_refl _, fun _ _ => rfl⟩
theorem Src.set {T : TypeId} {w : World} {lo b b' : Nat} (h : Src T w lo b) (hb : b' ≠ b) (hl : lo ≤ b') (i : Nat) (v : Value) : Src T (w.setCell ⟨b', i, none⟩ v) lo b := by
  have := (Only.refl b' (b' + 1) w).set ⟨Nat.le_refl _, Nat.lt_succ_self _⟩ i v
  exact h.apart this (by omega) hl
theorem Blk.set {w : World} {b : Nat} {cs : Array Value} {T : TypeId} (h : Blk w b cs T) (i : Nat) (v : Value) : Blk (w.setCell ⟨b, i, none⟩ v) b (cs.setIfInBounds i v) T := by
  exact heap_setCell_same w b i cs T v h
set_option maxHeartbeats 1000000 in
theorem spec_l01From {lo : Nat} {a : Option Addr} {n c : Nat} {w : World} (hB : Byts w a n c) (hn : n ≤ 4096) (hl : n = 0 ∨ ∃ b off, a = some ⟨b, off, none⟩ ∧ b < lo) (hlw : lo ≤ w.heap.size) :
    Calls Tryz.prog 42 #[.slice a n c] w fun e w' => ∃ b, e = .returned (.pointer (some ⟨b, 0, none⟩)) ∧ Below w.heap.size w w' ∧ w.heap.size ≤ b ∧ Src 107 w' lo b := by
  have HL := Lib.hid hl
  clear hl
  have HB := Lib.hid hB
  clear hB
  go_enter Tryz.func42, Tryz.ntmps42
  have B0 := Lib.hid (Blk.made w #[.slice a n c, .int .i64 0, .int .i64 52021] 107)
  have hb0 : Below w.heap.size w (w.alloc (.cells #[.slice a n c, .int .i64 0, .int .i64 52021] 107)) := bel
  go_wp2
  go_loopw [4] (fun s4 wr => ∃ (k : Nat) (sd : Int), k ≤ n ∧ s4 = .int .i64 k ∧ 0 ≤ sd ∧ sd < 2147483647 ∧ Below w.heap.size w wr ∧ Hid (Blk wr w.heap.size #[.slice a n c, .int .i64 0, .int .i64 sd] 107)) (fun s4 _ => n - (intOf s4).toNat)
  case atStart => exact ⟨0, 52021, Nat.zero_le _, rfl, by omega, by omega, hb0, B0⟩
  case round =>
    clear B0 hb0
    obtain ⟨k, sd, hk, rfl, h0, h1, hbl, B⟩ := hrel
    have hk0 : (0 : Int) ≤ (k : Int) := by omega
    have c0 := B.out.cell 0
    have c1 := B.out.cell 1
    have c2 := B.out.cell 2
    have z1 := B.out.lt
    have hfz := B.out.free
    simp at c0 c1 c2
    by_cases hlt : k < n ∧ k < 64
    · obtain ⟨b, off, x, rfl, hb, hx0, hx1, hcell⟩ := (HB.out.keep hbl).at hlt.1
      have hk1 : (k : Int) < (n : Int) := by omega
      have hk2 : (k : Int) < 64 := by omega
      have e1 : IntKind.i64.wrap (sd * 59) = sd * 59 := IntWalk.i64_in _ (by omega)
      have e2 : IntKind.i64.wrap x = x := IntWalk.i64_in _ (by omega)
      have e3 : IntKind.i64.wrap (sd * 59 + x) = sd * 59 + x := IntWalk.i64_in _ (by omega)
      go_wp2
      go_region
      go_wp2
      go_roundw
      case rel => exact ⟨k + 1, (sd * 59 + x) % 2147483647, by omega, by go_num, by omega, by omega, bel, Blk.drew (B.out.set 2 _)⟩
      case measure => simp [intOf]; omega
    · by_cases hlt2 : k < n
      · have hk1 : (k : Int) < (n : Int) := by omega
        have hk2 : ¬ (k : Int) < 64 := by omega
        go_wp2
        go_ret
        exact ⟨w.heap.size, rfl, hbl, Nat.le_refl _, a, n, c, 0, sd, B.out, ⟨HB.out.keep hbl, Nat.le_trans hlw hbl.size, HL.out⟩, hn, by omega, by omega, h0, h1, hlw⟩
      · have hk1 : ¬ (k : Int) < (n : Int) := by omega
        go_wp2
        go_ret
        exact ⟨w.heap.size, rfl, hbl, Nat.le_refl _, a, n, c, 0, sd, B.out, ⟨HB.out.keep hbl, Nat.le_trans hlw hbl.size, HL.out⟩, hn, by omega, by omega, h0, h1, hlw⟩
def allI64 : List Int → Prop
  | [] => True
  | x :: r => I64 x ∧ allI64 r
theorem allI64.mem : ∀ {l : List Int}, allI64 l → ∀ x ∈ l, I64 x
  | [], _, x, h => by cases h
  | y :: r, h, x, hx => by
    rcases List.mem_cons.1 hx with rfl | hx
    · exact h.1
    · exact allI64.mem h.2 x hx
theorem ints_lit (w : World) (T : TypeId) (l : List Int) (hw : allI64 l) : Ints (w.alloc (.cells (l.map (Value.int .i64)).toArray T)) (some ⟨w.heap.size, 0, none⟩) l.length l.length l := by
  refine ⟨rfl, Nat.le_refl _, .inr ⟨w.heap.size, 0, rfl, by simp, fun i x hx => ?_⟩, hw.mem, fun h => by cases h⟩
  have := (Blk.made w (l.map (Value.int .i64)).toArray T).cell i
  rw [Nat.zero_add, this]
  simp [hx]
/-- what l01Next answers -/
def NextIn (n r : Int) : Prop := 0 ≤ r ∧ (n ≤ 1 → r = 0) ∧ (1 < n → r < n)
theorem NextIn.i64 {n r : Int} (h : NextIn n r) (hn : I64 n) : I64 r := by
  obtain ⟨h1, h2, h3⟩ := h
  unfold I64 at hn ⊢
  by_cases h : n ≤ 1
  · have := h2 h; omega
  · have := h3 (by omega); omega
theorem NextIn.mod {n x : Int} (hn : 1 < n) : NextIn n (x % n) := ⟨Int.emod_nonneg _ (by omega), fun h => by omega, fun _ => Int.emod_lt_of_pos _ (by omega)⟩
set_option maxHeartbeats 1000000 in
theorem spec_l01Next {b lo : Nat} {n : Int} {w : World} (hS : Src 107 w lo b) (hn : I64 n) :
    Calls Tryz.prog 49 #[.pointer (some ⟨b, 0, none⟩), .int .i64 n] w fun e w' => ∃ r, e = .returned (.int .i64 r) ∧ NextIn n r ∧ Only b (b + 1) w w' ∧ Src 107 w' lo b := by
  by_cases hn1 : n ≤ 1
  · have HS := Lib.hid hS
    clear hS
    go_enter Tryz.func49, Tryz.ntmps49
    go_wp2
    go_ret
    exact ⟨0, rfl, ⟨by omega, fun _ => rfl, fun h => by omega⟩, by repeat (first | with_reducible exact Only.refl _ _ _ | with_reducible assumption | with_reducible refine Only.set ?_ (by first | omega | (simp; omega)) _ _ | with_reducible refine Only.setN ?_ (by first | omega | (simp; omega)) _ _ | with_reducible refine Only.alloc ?_ _ | with_reducible refine Only.drew ?_ | with_reducible refine Only.drewN ?_ _ | with_reducible refine Only.then ?_ (by assumption) | with_reducible refine Only.trans ?_ (by assumption)), HS.out⟩
  · obtain ⟨a, m, c, p, sd, B, hBy, hm, hp0, hp1, hs0, hs1, hlo⟩ := hS
    have HB := Lib.hid B
    have HY := Lib.hid hBy
    have hfz := B.free
    have c0 := B.cell 0
    have c1 := B.cell 1
    have c2 := B.cell 2
    have z1 := B.lt
    simp at c0 c1 c2
    clear B hBy
    have e1 : IntKind.i64.wrap (sd * 48271) = sd * 48271 := IntWalk.i64_in _ (by omega)
    have e2 : IntKind.i64.wrap (sd * 48271 + 29) = sd * 48271 + 29 := IntWalk.i64_in _ (by omega)
    have e4 : IntKind.i64.wrap (p + 1) = p + 1 := IntWalk.i64_in _ (by omega)
    have e5 : ¬ n = 0 := by omega
    by_cases hpm : p < m
    · obtain ⟨p', rfl⟩ := Int.eq_ofNat_of_zero_le hp0
      obtain ⟨b', off, x, rfl, hb', hx0, hx1, hcell⟩ := HY.out.1.at (k := p') (by omega)
      have e3 : IntKind.i64.wrap x = x := IntWalk.i64_in _ (by omega)
      have hne : b' ≠ b := by
        rcases HY.out.2.2 with h | ⟨q, o, h1, h2⟩
        · omega
        · simp at h1; omega
      have hBY : ∀ w', Only b (b + 1) w w' → BytsLo w' lo (some ⟨b', off, none⟩) m c := fun w' ho => HY.out.below (ho.below (Below.refl _ _) hlo (Nat.le_of_lt (Nat.lt_of_le_of_lt hlo z1)))
      have HBY := Lib.hid hBY
      clear hBY
      by_cases hn2 : n ≤ 256
      · by_cases hn3 : (p' + 1) % 2 = 0
        · have e7 : ((p' : Int) + 1) % 2 = 0 := by omega
          go_enter Tryz.func49, Tryz.ntmps49
          go_wp2
          go_quiet (fail)
          go_wp2
          go_quiet (fail)
          go_wp2
          go_quiet (fail)
          go_wp2
          go_ret
          exact ⟨_, rfl, NextIn.mod (by omega), by repeat (first | with_reducible exact Only.refl _ _ _ | with_reducible assumption | with_reducible refine Only.set ?_ (by first | omega | (simp; omega)) _ _ | with_reducible refine Only.setN ?_ (by first | omega | (simp; omega)) _ _ | with_reducible refine Only.alloc ?_ _ | with_reducible refine Only.drew ?_ | with_reducible refine Only.drewN ?_ _ | with_reducible refine Only.then ?_ (by assumption) | with_reducible refine Only.trans ?_ (by assumption)), _, _, _, _, _, (HB.out.set 2 _).set 1 _, HBY.out _ (by repeat (first | with_reducible exact Only.refl _ _ _ | with_reducible assumption | with_reducible refine Only.set ?_ (by first | omega | (simp; omega)) _ _ | with_reducible refine Only.setN ?_ (by first | omega | (simp; omega)) _ _ | with_reducible refine Only.alloc ?_ _ | with_reducible refine Only.drew ?_ | with_reducible refine Only.drewN ?_ _ | with_reducible refine Only.then ?_ (by assumption) | with_reducible refine Only.trans ?_ (by assumption))), hm, by omega, by omega, Int.emod_nonneg _ (by omega), Int.emod_lt_of_pos _ (by omega), hlo⟩
        · have e7 : ¬ ((p' : Int) + 1) % 2 = 0 := by omega
          go_enter Tryz.func49, Tryz.ntmps49
          go_wp2
          go_quiet (fail)
          go_wp2
          go_quiet (fail)
          go_wp2
          go_ret
          exact ⟨_, rfl, NextIn.mod (by omega), by repeat (first | with_reducible exact Only.refl _ _ _ | with_reducible assumption | with_reducible refine Only.set ?_ (by first | omega | (simp; omega)) _ _ | with_reducible refine Only.setN ?_ (by first | omega | (simp; omega)) _ _ | with_reducible refine Only.alloc ?_ _ | with_reducible refine Only.drew ?_ | with_reducible refine Only.drewN ?_ _ | with_reducible refine Only.then ?_ (by assumption) | with_reducible refine Only.trans ?_ (by assumption)), _, _, _, _, _, (HB.out.set 2 _).set 1 _, HBY.out _ (by repeat (first | with_reducible exact Only.refl _ _ _ | with_reducible assumption | with_reducible refine Only.set ?_ (by first | omega | (simp; omega)) _ _ | with_reducible refine Only.setN ?_ (by first | omega | (simp; omega)) _ _ | with_reducible refine Only.alloc ?_ _ | with_reducible refine Only.drew ?_ | with_reducible refine Only.drewN ?_ _ | with_reducible refine Only.then ?_ (by assumption) | with_reducible refine Only.trans ?_ (by assumption))), hm, by omega, by omega, Int.emod_nonneg _ (by omega), Int.emod_lt_of_pos _ (by omega), hlo⟩
      · go_enter Tryz.func49, Tryz.ntmps49
        go_wp2
        go_quiet (fail)
        go_wp2
        go_quiet (fail)
        go_wp2
        go_ret
        exact ⟨_, rfl, NextIn.mod (by omega), by repeat (first | with_reducible exact Only.refl _ _ _ | with_reducible assumption | with_reducible refine Only.set ?_ (by first | omega | (simp; omega)) _ _ | with_reducible refine Only.setN ?_ (by first | omega | (simp; omega)) _ _ | with_reducible refine Only.alloc ?_ _ | with_reducible refine Only.drew ?_ | with_reducible refine Only.drewN ?_ _ | with_reducible refine Only.then ?_ (by assumption) | with_reducible refine Only.trans ?_ (by assumption)), _, _, _, _, _, (HB.out.set 2 _).set 1 _, HBY.out _ (by repeat (first | with_reducible exact Only.refl _ _ _ | with_reducible assumption | with_reducible refine Only.set ?_ (by first | omega | (simp; omega)) _ _ | with_reducible refine Only.setN ?_ (by first | omega | (simp; omega)) _ _ | with_reducible refine Only.alloc ?_ _ | with_reducible refine Only.drew ?_ | with_reducible refine Only.drewN ?_ _ | with_reducible refine Only.then ?_ (by assumption) | with_reducible refine Only.trans ?_ (by assumption))), hm, by omega, by omega, Int.emod_nonneg _ (by omega), Int.emod_lt_of_pos _ (by omega), hlo⟩
    · have hBY : ∀ w', Only b (b + 1) w w' → BytsLo w' lo a m c := fun w' ho => HY.out.below (ho.below (Below.refl _ _) hlo (Nat.le_of_lt (Nat.lt_of_le_of_lt hlo z1)))
      have HBY := Lib.hid hBY
      clear hBY
      go_enter Tryz.func49, Tryz.ntmps49
      go_wp2
      go_quiet (fail)
      go_wp2
      go_ret
      exact ⟨_, rfl, NextIn.mod (by omega), by repeat (first | with_reducible exact Only.refl _ _ _ | with_reducible assumption | with_reducible refine Only.set ?_ (by first | omega | (simp; omega)) _ _ | with_reducible refine Only.setN ?_ (by first | omega | (simp; omega)) _ _ | with_reducible refine Only.alloc ?_ _ | with_reducible refine Only.drew ?_ | with_reducible refine Only.drewN ?_ _ | with_reducible refine Only.then ?_ (by assumption) | with_reducible refine Only.trans ?_ (by assumption)), _, _, _, _, _, HB.out.set 2 _, HBY.out _ (by repeat (first | with_reducible exact Only.refl _ _ _ | with_reducible assumption | with_reducible refine Only.set ?_ (by first | omega | (simp; omega)) _ _ | with_reducible refine Only.setN ?_ (by first | omega | (simp; omega)) _ _ | with_reducible refine Only.alloc ?_ _ | with_reducible refine Only.drew ?_ | with_reducible refine Only.drewN ?_ _ | with_reducible refine Only.then ?_ (by assumption) | with_reducible refine Only.trans ?_ (by assumption))), hm, by omega, by omega, Int.emod_nonneg _ (by omega), Int.emod_lt_of_pos _ (by omega), hlo⟩
set_option maxHeartbeats 1000000 in
theorem spec_l01Pick {b lo : Nat} {a : Option Addr} {n c : Nat} {l : List Int} {w : World} (hS : Src 107 w lo b) (hI : Ints w a n c l) (hn : n ≤ 1048576) (h0 : 0 < n) (hb : ∀ g off, a = some ⟨g, off, none⟩ → g ≠ b) :
    Calls Tryz.prog 131 #[.pointer (some ⟨b, 0, none⟩), .slice a n c] w fun e w' => ∃ r, e = .returned (.int .i64 r) ∧ r ∈ l ∧ I64 r ∧ Only b (b + 1) w w' ∧ Src 107 w' lo b := by
  have HI := Lib.hid hI
  have hS' := Lib.hid hS
  clear hS hI
  have hni : I64 (n : Int) := ⟨by omega, by omega⟩
  go_enter Tryz.func131, Tryz.ntmps131
  go_wp2_with fail
  refine Calls.mono (spec_l01Next hS'.out hni) ?_
  rintro e w1 ⟨r, rfl, hr, ho, hS1⟩
  have hr0 := hr.1
  have hrn : r < (n : Int) := by
    by_cases h1 : (n : Int) ≤ 1
    · have := hr.2.1 h1; omega
    · exact hr.2.2 (by omega)
  obtain ⟨q, rfl⟩ := Int.eq_ofNat_of_zero_le hr0
  obtain ⟨g, off, x, rfl, hg, hx, hcell, hwf⟩ := (HI.out.only ho (fun g off e => by have := hb g off e; omega)).at (k := q) (by omega)
  have Hx := Lib.hid (List.mem_of_getElem? hx)
  clear hx
  have HS1 := Lib.hid hS1
  clear hS1 hr
  go_wp2
  go_ret
  exact ⟨x, rfl, Hx.out, hwf, ho, HS1.out⟩
def Sm (x : Int) : Prop := -1000000 ≤ x ∧ x ≤ 1000000
theorem Sm.i64 {x : Int} (h : Sm x) : I64 x := ⟨by have := h.1; omega, by have := h.2; omega⟩
def Sm5 (x : Int) : Prop := -100000 ≤ x ∧ x ≤ 100000
theorem Sm5.i64 {x : Int} (h : Sm5 x) : I64 x := ⟨by have := h.1; omega, by have := h.2; omega⟩
/-- from w to w' only the source b is written, and it is a source there -/
structure Dw (T : TypeId) (lo b : Nat) (w w' : World) : Prop where
  only : Only b (b + 1) w w'
  src : Src T w' lo b
  lt : b < w.heap.size
theorem Dw.start {T : TypeId} {lo b : Nat} {w w' : World} (h : Dw T lo b w w') : Dw T lo b w' w' := ⟨Only.refl _ _ _, h.src, h.src.lt.2⟩
theorem Dw.of {T : TypeId} {lo b : Nat} {w : World} (h : Src T w lo b) : Dw T lo b w w := ⟨Only.refl _ _ _, h, h.lt.2⟩
theorem Dw.trans {T : TypeId} {lo b : Nat} {w w' w'' : World} (h : Dw T lo b w w') (h' : Dw T lo b w' w'') : Dw T lo b w w'' := ⟨h.only.trans h'.only, h'.src, h.lt⟩
theorem Dw.belowG {T : TypeId} {lo b B : Nat} {w w' w'' : World} (h : Dw T lo b w w') (hb : Below B w' w'') (hB : w.heap.size ≤ B) : Dw T lo b w w'' := by
  have hlt := h.src.lt
  have hb0 := h.lt
  have hs := h.only.size
  refine ⟨⟨hb.os.trans h.only.os, hb.tape.trans h.only.tape, hb.output.trans h.only.output, Nat.le_trans hs hb.size, fun k hk hr => (hb.block k (by omega)).trans (h.only.block k hk hr)⟩, ?_, h.lt⟩
  refine h.src.apart (l2 := B) (h2 := w'.heap.size) ⟨hb.os, hb.tape, hb.output, hb.size, fun k hk hr => hb.block k (by omega)⟩ (.inl (by omega)) (by omega)
theorem Dw.below {T : TypeId} {lo b : Nat} {w w' w'' : World} (h : Dw T lo b w w') (hb : Below w'.heap.size w' w'') : Dw T lo b w w'' := h.belowG hb h.only.size
theorem Dw.alloc {T : TypeId} {lo b : Nat} {w w' : World} (h : Dw T lo b w w') (o : Obj) : Dw T lo b w (w'.alloc o) := h.below ((Below.refl _ _).alloc (Nat.le_refl _) o)
theorem Dw.drewN {T : TypeId} {lo b : Nat} {w w' : World} (h : Dw T lo b w w') (n : Nat) : Dw T lo b w (w'.drewN n) := h.below ⟨rfl, rfl, rfl, Nat.le_refl _, fun _ _ => rfl⟩
theorem Dw.drew {T : TypeId} {lo b : Nat} {w w' : World} (h : Dw T lo b w w') : Dw T lo b w w'.drew := h.below ⟨rfl, rfl, rfl, Nat.le_refl _, fun _ _ => rfl⟩
theorem Dw.set {T : TypeId} {lo b g : Nat} {w w' : World} (h : Dw T lo b w w') (hg : w.heap.size ≤ g) (i : Nat) (v : Value) : Dw T lo b w (w'.setCell ⟨g, i, none⟩ v) :=
  h.belowG ((Below.refl w.heap.size w').setCell (p := ⟨g, i, none⟩) hg v) (Nat.le_refl _)
theorem Dw.size {T : TypeId} {lo b : Nat} {w w' : World} (h : Dw T lo b w w') : w.heap.size ≤ w'.heap.size := h.only.size
theorem Dw.out {T : TypeId} {b : Nat} {w w1 w' : World} (h : Dw T w.heap.size b w1 w') (h0 : Below w.heap.size w w1) : Below w.heap.size w w' := by
  have := (h.src.lt).1
  exact h.only.below h0 this h0.size
theorem Dw.fin {T : TypeId} {lo b B : Nat} {w w1 w' : World} (h : Dw T lo b w1 w') (h0 : Below B w w1) (hB : B ≤ b) : Below B w w' := h.only.below h0 hB (by have := h.lt; omega)
theorem Dw.frz {T : TypeId} {lo b g : Nat} {w w' : World} (h : Dw T lo b w w') (hf : ∀ i, w.frozen? ⟨g, i, none⟩ = false) (hg : g < w.heap.size) (hne : g ≠ b) : ∀ i, w'.frozen? ⟨g, i, none⟩ = false := fun i => by
  have := h.only.block g hg (by omega)
  have h1 := hf i
  unfold World.frozen? at h1 ⊢
  simp only at h1 ⊢
  rw [this]; exact h1
/-- what a cell that is there holds -/
def valAt (w : World) (g i : Nat) : Value := (w.cell? ⟨g, i, none⟩).getD undef
theorem valAt_of {w : World} {g i : Nat} (h : (w.cell? ⟨g, i, none⟩).isSome = true) : w.cell? ⟨g, i, none⟩ = some (valAt w g i) := by
  obtain ⟨v, hv⟩ := Option.isSome_iff_exists.1 h
  rw [valAt, hv]; rfl
theorem some_is {w : World} {a : Addr} {v : Value} (h : w.cell? a = some v) : (w.cell? a).isSome = true := by rw [h]; rfl
theorem Dw.has {T : TypeId} {lo b g o : Nat} {w w' : World} (h : Dw T lo b w w') {u : Value} (hc : w.cell? ⟨g, o, none⟩ = some u) (hne : g ≠ b) : w'.cell? ⟨g, o, none⟩ = some (valAt w' g o) := by
  have hlt := World.block_lt_of_cell? w _ hc
  refine valAt_of ?_
  rw [ocell h.only g o hlt (by omega), hc]; rfl
theorem isSome_set {w : World} {p a : Addr} {v : Value} (h : (w.cell? a).isSome = true) : ((w.setCell p v).cell? a).isSome = true := by
  by_cases e : p = a
  · subst e
    obtain ⟨u, hu⟩ := Option.isSome_iff_exists.1 h
    obtain ⟨v', hy'⟩ := cell?_setCell_some (w := w) (p := p) (x := v) (q := p) (v := u) hu
    rw [hy']; rfl
  · rw [World.cell?_setCell_other w p a v e]; exact h
theorem cell_drew {w : World} {a : Addr} {u : Value} (h : w.cell? a = some u) : w.drew.cell? a = some u := h
theorem lt_drew {w : World} {g : Nat} (h : g < w.heap.size) : g < w.drew.heap.size := h
theorem frz_drew {w : World} {g : Nat} (h : ∀ i, w.frozen? ⟨g, i, none⟩ = false) : ∀ i, w.drew.frozen? ⟨g, i, none⟩ = false := h
theorem val_drew {w : World} {g i : Nat} {u : Value} (h : w.cell? ⟨g, i, none⟩ = some u) : w.drew.cell? ⟨g, i, none⟩ = some (valAt w.drew g i) := valAt_of (some_is (w := w.drew) h)
theorem lt_set {w : World} {g : Nat} {p : Addr} {v : Value} (h : g < w.heap.size) : g < (w.setCell p v).heap.size := by simpa [World.setCell] using h
theorem frz_set {w : World} {g : Nat} {p : Addr} {v : Value} (h : ∀ i, w.frozen? ⟨g, i, none⟩ = false) : ∀ i, (w.setCell p v).frozen? ⟨g, i, none⟩ = false := fun i => (World.frozen?_setCell ..).trans (h i)
theorem cell_set {w : World} {g g' i i' : Nat} {u v : Value} (h : w.cell? ⟨g, i, none⟩ = some u) (hne : g' ≠ g) : (w.setCell ⟨g', i', none⟩ v).cell? ⟨g, i, none⟩ = some u := (World.cell?_setCell_far _ _ _ _ hne).trans h
theorem cell_alloc {w : World} {a : Addr} {u : Value} {o : Obj} (h : w.cell? a = some u) : (w.alloc o).cell? a = some u := (World.cell?_alloc_some _ _ _ (some_is h)).trans h
theorem lt_alloc {w : World} {g : Nat} {o : Obj} (h : g < w.heap.size) : g < (w.alloc o).heap.size := by simp; omega
theorem frz_alloc {w : World} {g : Nat} {o : Obj} (h : ∀ i, w.frozen? ⟨g, i, none⟩ = false) (hg : g < w.heap.size) : ∀ i, (w.alloc o).frozen? ⟨g, i, none⟩ = false := fun i => (((Below.refl _ _).alloc (Nat.le_refl _) o).frozen (p := ⟨g, i, none⟩) hg).trans (h i)
theorem Blk.has {w : World} {b : Nat} {cs : Array Value} {T : TypeId} (h : Blk w b cs T) {i : Nat} (hi : i < cs.size) : w.cell? ⟨b, i, none⟩ = some (valAt w b i) := by
  refine valAt_of ?_
  rw [h.cell i]; simp [hi]
theorem Blk.dw {T T' : TypeId} {lo b g : Nat} {w w' : World} {cs : Array Value} (h : Blk w g cs T') (hd : Dw T lo b w w') (hne : g ≠ b) : Blk w' g cs T' := h.apart hd.only (by omega)
theorem OwnI.dw {E T : TypeId} {lo b B : Nat} {w w' : World} {a : Option Addr} {n c : Nat} {l : List Int} (h : OwnI E w B a n c l) (hd : Dw T lo b w w') (hB : b < B) : OwnI E w' B a n c l :=
  h.only hd.only fun g hg => by have := (h.blk g hg).1; omega
theorem OwnF.dw {α : Type} {k : Nat} {enc : α → List Value} {ok : α → Prop} {E T : TypeId} {lo b B : Nat} {w w' : World} {a : Option Addr} {n c : Nat} {l : List α} (h : OwnF k enc ok E w B a n c l) (hd : Dw T lo b w w') (hB : b < B) : OwnF k enc ok E w' B a n c l :=
  h.only hd.only fun g hg => by have := (h.blk g hg).1; omega
theorem Ints.dw {T : TypeId} {lo b : Nat} {w w' : World} {a : Option Addr} {n c : Nat} {l : List Int} (h : Ints w a n c l) (hd : Dw T lo b w w') (hne : ∀ g off, a = some ⟨g, off, none⟩ → g ≠ b) : Ints w' a n c l :=
  h.only hd.only fun g off e => by have := hne g off e; omega
theorem OwnI.ne {E : TypeId} {w : World} {B b : Nat} {a : Option Addr} {n c : Nat} {l : List Int} (h : OwnI E w B a n c l) (hB : b < B) : ∀ g off, a = some ⟨g, off, none⟩ → g ≠ b := fun g off e => by
  rcases h.form with ⟨h1, _⟩ | ⟨q, h1⟩
  · rw [h1] at e; cases e
  · have := (h.blk q h1).1
    rw [h1] at e; simp only [Option.some.injEq, Addr.mk.injEq] at e; omega
set_option maxHeartbeats 1000000 in
theorem dw_l01From {w1 : World} {a : Option Addr} {n c : Nat} {w : World} (hB : Byts w1 a n c) (hb : Below w1.heap.size w1 w) (hn : n ≤ 4096) :
    Calls Tryz.prog 42 #[.slice a n c] w fun e w' => ∃ b, e = .returned (.pointer (some ⟨b, 0, none⟩)) ∧ Below w.heap.size w w' ∧ w.heap.size ≤ b ∧ Dw 107 w1.heap.size b w' w' :=
  (spec_l01From (hB.keep hb) hn hB.lo.2.2 hb.size).mono fun e w' ⟨b, h1, h2, h4, h3⟩ => ⟨b, h1, h2, h4, Dw.of h3⟩
theorem dw_l01Next {b lo : Nat} {n : Int} {w0 w : World} (hS : Dw 107 lo b w0 w) (hn : I64 n) :
    Calls Tryz.prog 49 #[.pointer (some ⟨b, 0, none⟩), .int .i64 n] w fun e w' => ∃ r, e = .returned (.int .i64 r) ∧ NextIn n r ∧ Dw 107 lo b w w' :=
  (spec_l01Next hS.src hn).mono fun e w' ⟨r, h1, h2, h3, h4⟩ => ⟨r, h1, h2, h3, h4, hS.src.lt.2⟩
theorem dw_l01Pick {b lo : Nat} {a : Option Addr} {n c : Nat} {l : List Int} {w0 w : World} (hS : Dw 107 lo b w0 w) (hI : Ints w a n c l) (hn : n ≤ 1048576) (h0 : 0 < n) (hb : ∀ g off, a = some ⟨g, off, none⟩ → g ≠ b) :
    Calls Tryz.prog 131 #[.pointer (some ⟨b, 0, none⟩), .slice a n c] w fun e w' => ∃ r, e = .returned (.int .i64 r) ∧ r ∈ l ∧ I64 r ∧ Dw 107 lo b w w' :=
  (spec_l01Pick hS.src hI hn h0 hb).mono fun e w' ⟨r, h1, h2, h3, h4, h5⟩ => ⟨r, h1, h2, h3, h4, h5, hS.src.lt.2⟩
theorem below_alloc1 {w w' : World} (h : Below w.heap.size w w') (o : Obj) : Below w.heap.size w (w'.alloc o) := h.alloc h.size o
theorem OwnF.emp {α : Type} {k : Nat} {enc : α → List Value} {ok : α → Prop} {E : TypeId} {base : Nat} (w : World) (h : base ≤ w.heap.size) (hk : ∀ x, (enc x).length = k) : OwnF k enc ok E (w.alloc (.cells #[] E)) base (some ⟨w.heap.size, 0, none⟩) 0 0 [] := by
  refine ⟨?_, (fun _ h => by cases h), rfl, hk⟩
  have := World.ownsRow_lit (base := base) (e := E) (size := k) w #[] 0 h (by omega) (by simp)
  simpa using this
theorem OwnI.zeros {E : TypeId} {base m : Nat} {cs : Array Value} (w : World) (h : base ≤ w.heap.size) (hm : m ≤ 1048576) (hc : cs = (List.replicate m (Value.int .i64 0)).toArray) : OwnI E (w.alloc (.cells cs E)) base (some ⟨w.heap.size, 0, none⟩) m m (List.replicate m 0) := by
  subst hc
  refine ⟨?_, fun x hx => ?_⟩
  · have := World.ownsRow_lit (base := base) (e := E) (size := 1) w (List.replicate m (Value.int .i64 0)).toArray m h (by unfold maxLen; omega) (by simp)
    simpa using this
  · obtain ⟨_, rfl⟩ := List.mem_replicate.1 hx; decide
theorem OwnF.zeros {α : Type} {k m : Nat} {enc : α → List Value} {ok : α → Prop} {E : TypeId} {base : Nat} {cs : Array Value} (w : World) (z : α) (h : base ≤ w.heap.size) (hm : m ≤ 1048576) (hk : ∀ x, (enc x).length = k) (hz : ok z) (hc : cs = ((List.replicate m z).flatMap enc).toArray) : OwnF k enc ok E (w.alloc (.cells cs E)) base (some ⟨w.heap.size, 0, none⟩) m m (List.replicate m z) := by
  subst hc
  refine ⟨?_, fun x hx => ?_, by simp, hk⟩
  · have hl : ((List.replicate m z).flatMap enc).length = m * k := by
      induction m with
      | zero => simp
      | succ m ih => rw [List.replicate_succ, List.flatMap_cons, List.length_append, hk, ih (by omega), Nat.succ_mul, Nat.add_comm]
    have := World.ownsRow_lit (base := base) (e := E) (size := k) w ((List.replicate m z).flatMap enc).toArray m h (by unfold maxLen; omega) (by simp [hl])
    simpa using this
  · obtain ⟨_, rfl⟩ := List.mem_replicate.1 hx; exact hz
theorem I3.one (y : I3) : ∀ u ∈ y.enc, u.oneCell' = true := fun u hu => by
  simp only [I3.enc, List.mem_cons, List.not_mem_nil, or_false] at hu
  rcases hu with rfl | rfl | rfl <;> rfl
theorem I2.one (y : I2) : ∀ u ∈ y.enc, u.oneCell' = true := fun u hu => by
  simp only [I2.enc, List.mem_cons, List.not_mem_nil, or_false] at hu
  rcases hu with rfl | rfl <;> rfl
theorem Dw.src' {T : TypeId} {lo b : Nat} {w0 w : World} (h : Dw T lo b w0 w) : Src T w lo b := h.src
/-- where nothing but blocks from base on is written, base behind the source -/
theorem Dw.own {T : TypeId} {lo b B : Nat} {w0 w w' : World} (h : Dw T lo b w0 w) (hb : Below B w w') (hB : w0.heap.size ≤ B) : Dw T lo b w0 w' := h.belowG hb hB
theorem dw_next {b lo : Nat} {n : Int} {w : World} (hS : Src 107 w lo b) (hn : I64 n) :
    Calls Tryz.prog 49 #[.pointer (some ⟨b, 0, none⟩), .int .i64 n] w fun e w' => ∃ r, e = .returned (.int .i64 r) ∧ 0 ≤ r ∧ (r < n ∨ (n ≤ 1 ∧ r ≤ 0)) ∧ Dw 107 lo b w w' :=
  (spec_l01Next hS hn).mono fun e w' ⟨r, h1, h2, h3, h4⟩ => ⟨r, h1, h2.1, (by have h5 := h2.2.1; have h6 := h2.2.2; omega), h3, h4, hS.lt.2⟩
theorem dw_pick {b lo g m : Nat} {l : List Int} {w : World} {T : TypeId} {cs : Array Value} (hS : Src 107 w lo b) (hg : g = w.heap.size) (hl : cs = (l.map (Value.int .i64)).toArray) (hlen : l.length = m) (hm : m ≤ 100) (h0 : 0 < m) (hP : ∀ x ∈ l, I64 x) :
    Calls Tryz.prog 131 #[.pointer (some ⟨b, 0, none⟩), .slice (some ⟨g, 0, none⟩) m m] (w.alloc (.cells cs T)) fun e w' => ∃ r, e = .returned (.int .i64 r) ∧ r ∈ l ∧ I64 r ∧ Dw 107 lo b w w' := by
  subst hg hlen hl
  have hlt := hS.lt
  have hI : Ints (w.alloc (.cells (l.map (Value.int .i64)).toArray T)) (some ⟨w.heap.size, 0, none⟩) l.length l.length l := by
    refine ⟨rfl, Nat.le_refl _, .inr ⟨w.heap.size, 0, rfl, by simp, fun i x hx => ?_⟩, hP, fun h => by cases h⟩
    have := (Blk.made w (l.map (Value.int .i64)).toArray T).cell i
    rw [Nat.zero_add, this]
    simp [hx]
  refine (spec_l01Pick (hS.alloc _) hI (by omega) h0 (by intro g off e; simp at e; omega)).mono ?_
  rintro e w' ⟨r, h1, h2, h3, h4, h5⟩
  exact ⟨r, h1, h2, h3, ((Only.refl _ _ w).alloc _).trans h4, h5, hlt.2⟩
theorem dw_pick2 {b lo g : Nat} {x0 x1 : Int} {w : World} {T : TypeId} (hS : Src 107 w lo b) (hg : g = w.heap.size) (h0 : I64 x0) (h1 : I64 x1) :
    Calls Tryz.prog 131 #[.pointer (some ⟨b, 0, none⟩), .slice (some ⟨g, 0, none⟩) 2 2] (w.alloc (.cells #[.int .i64 x0, .int .i64 x1] T)) fun e w' => ∃ r, e = .returned (.int .i64 r) ∧ (r = x0 ∨ r = x1) ∧ I64 r ∧ Dw 107 lo b w w' :=
  (dw_pick (m := 2) (l := [x0, x1]) hS hg rfl rfl (by decide) (by decide) (by simp [h0, h1])).mono fun e w' ⟨r, a, h, c⟩ => ⟨r, a, by simpa using h, c⟩
theorem dw_pick3 {b lo g : Nat} {x0 x1 x2 : Int} {w : World} {T : TypeId} (hS : Src 107 w lo b) (hg : g = w.heap.size) (h0 : I64 x0) (h1 : I64 x1) (h2 : I64 x2) :
    Calls Tryz.prog 131 #[.pointer (some ⟨b, 0, none⟩), .slice (some ⟨g, 0, none⟩) 3 3] (w.alloc (.cells #[.int .i64 x0, .int .i64 x1, .int .i64 x2] T)) fun e w' => ∃ r, e = .returned (.int .i64 r) ∧ (r = x0 ∨ r = x1 ∨ r = x2) ∧ I64 r ∧ Dw 107 lo b w w' :=
  (dw_pick (m := 3) (l := [x0, x1, x2]) hS hg rfl rfl (by decide) (by decide) (by simp [h0, h1, h2])).mono fun e w' ⟨r, a, h, c⟩ => ⟨r, a, by simpa using h, c⟩
theorem dw_pick4 {b lo g : Nat} {x0 x1 x2 x3 : Int} {w : World} {T : TypeId} (hS : Src 107 w lo b) (hg : g = w.heap.size) (h0 : I64 x0) (h1 : I64 x1) (h2 : I64 x2) (h3 : I64 x3) :
    Calls Tryz.prog 131 #[.pointer (some ⟨b, 0, none⟩), .slice (some ⟨g, 0, none⟩) 4 4] (w.alloc (.cells #[.int .i64 x0, .int .i64 x1, .int .i64 x2, .int .i64 x3] T)) fun e w' => ∃ r, e = .returned (.int .i64 r) ∧ (r = x0 ∨ r = x1 ∨ r = x2 ∨ r = x3) ∧ I64 r ∧ Dw 107 lo b w w' :=
  (dw_pick (m := 4) (l := [x0, x1, x2, x3]) hS hg rfl rfl (by decide) (by decide) (by simp [h0, h1, h2, h3])).mono fun e w' ⟨r, a, h, c⟩ => ⟨r, a, by simpa using h, c⟩
theorem dw_pick5 {b lo g : Nat} {x0 x1 x2 x3 x4 : Int} {w : World} {T : TypeId} (hS : Src 107 w lo b) (hg : g = w.heap.size) (h0 : I64 x0) (h1 : I64 x1) (h2 : I64 x2) (h3 : I64 x3) (h4 : I64 x4) :
    Calls Tryz.prog 131 #[.pointer (some ⟨b, 0, none⟩), .slice (some ⟨g, 0, none⟩) 5 5] (w.alloc (.cells #[.int .i64 x0, .int .i64 x1, .int .i64 x2, .int .i64 x3, .int .i64 x4] T)) fun e w' => ∃ r, e = .returned (.int .i64 r) ∧ (r = x0 ∨ r = x1 ∨ r = x2 ∨ r = x3 ∨ r = x4) ∧ I64 r ∧ Dw 107 lo b w w' :=
  (dw_pick (m := 5) (l := [x0, x1, x2, x3, x4]) hS hg rfl rfl (by decide) (by decide) (by simp [h0, h1, h2, h3, h4])).mono fun e w' ⟨r, a, h, c⟩ => ⟨r, a, by simpa using h, c⟩
/-- 'append(out, x)' of one int64, the literal laid just before -/
theorem app1 {P : Program} {w w0 : World} {T : TypeId} {lo b : Nat} {ops : Array Oper} {rest : List Oper} {o : Oper} {act : Act} {Q : Exit → Act → World → Prop} {z : Int} {t e : TypeId} (hgd : o.guard = none) (s x : Operand)
    (ho : o.op = .call { callee := .builtin .append, args := #[s, x], argTypes := #[t, t] }) (ht : P.underlying t = some (.slice e)) (hinfo : (P.info? e).map (fun i => (i.zero, i.size, i.bytes)) = some (some (.int .i64 0), 1, 8))
    (base : Nat) (a : Option Addr) (n c : Nat) (l : List Int) (hown : OwnI e w base a n c l) (hs : act.eval s = .slice a n c) (gx : Nat) (hx : act.eval x = .slice (some ⟨gx, 0, none⟩) 1 1) (hg : gx = w.heap.size) (hzw : I64 z)
    (hn : n ≤ 4194304) (hD : Dw T lo b w0 w) (hw0 : w0.heap.size ≤ base) (hbase : base ≤ w.heap.size)
    (K : ∀ a' c' w', OwnI e w' base a' (n + 1) c' (l ++ [z]) → Below base w w' → Dw T lo b w0 w' → wpList P ops Q rest (act.put o.dst (.slice a' (n + 1) c')) w') : wpList P ops Q (o :: rest) act (w.alloc (.cells #[.int .i64 z] e)) := by
  subst hg
  have hb0 : Below w.heap.size w (w.alloc (.cells #[.int .i64 z] e)) := (Below.refl _ _).alloc (Nat.le_refl _) _
  refine append1_i64 hgd s x t e ho ht hinfo base a n c l (hown.keep hb0) hs w.heap.size z hx (by simp) hzw hn (by simp; omega) ?_
  intro a' c' w' h1 h2 h3
  have h4 : Below base w w' := (hb0.mono hbase).trans h2
  exact K a' c' w' h1 h4 (hD.own h4 hw0)
theorem lit_flats {α : Type} {k : Nat} {enc : α → List Value} {ok : α → Prop} (w : World) (T : TypeId) (l : List α) (cs : Array Value) (hk : ∀ x, (enc x).length = k) (h0 : 0 < k) (hcs : cs = (l.flatMap enc).toArray) (hl : ∀ x ∈ l, ok x) :
    Flats k enc ok (w.alloc (.cells cs T)) (some ⟨w.heap.size, 0, none⟩) l.length l.length l := by
  subst hcs
  refine ⟨rfl, Nat.le_refl _, .inr ⟨w.heap.size, 0, rfl, by simp, fun i x hx j v hv => ?_⟩, hl, fun h => by cases h⟩
  have := (Blk.made w (l.flatMap enc).toArray T).cell (i * k + j)
  rw [Nat.zero_add, this]
  have h1 := flat_get hk hx hv
  simpa using h1
/-- 'append(out, x..)' of records, the literal laid just before -/
theorem appF {α : Type} {k m : Nat} {enc : α → List Value} {ok : α → Prop} {zv : Value} {by' : Nat} {P : Program} {w w0 : World} {T : TypeId} {lo b : Nat} {ops : Array Oper} {rest : List Oper} {o : Oper} {act : Act} {Q : Exit → Act → World → Prop} {cs : Array Value} {t e : TypeId} (hgd : o.guard = none) (s x : Operand)
    (ho : o.op = .call { callee := .builtin .append, args := #[s, x], argTypes := #[t, t] }) (ht : P.underlying t = some (.slice e)) (hinfo : (P.info? e).map (fun i => (i.zero, i.size, i.bytes)) = some (some zv, k, by'))
    (hzs : zv.cells.size = k) (hk : 0 < k) (hby : by' ≤ 128) (hone : ∀ y : α, ∀ u ∈ enc y, u.oneCell' = true)
    (base : Nat) (a : Option Addr) (n c : Nat) (l l2 : List α) (hown : OwnF k enc ok e w base a n c l) (hs : act.eval s = .slice a n c) (gx : Nat) (hx : act.eval x = .slice (some ⟨gx, 0, none⟩) m m) (hg : gx = w.heap.size) (hcs : cs = (l2.flatMap enc).toArray) (hl2 : l2.length = m) (hok2 : ∀ x ∈ l2, ok x)
    (hn : n ≤ 4194304) (hm : m ≤ 100) (hD : Dw T lo b w0 w) (hw0 : w0.heap.size ≤ base) (hbase : base ≤ w.heap.size)
    (K : ∀ a' c' w', OwnF k enc ok e w' base a' (n + m) c' (l ++ l2) → Below base w w' → Dw T lo b w0 w' → wpList P ops Q rest (act.put o.dst (.slice a' (n + m) c')) w') : wpList P ops Q (o :: rest) act (w.alloc (.cells cs e)) := by
  subst hg hl2
  have hb0 : Below w.heap.size w (w.alloc (.cells cs e)) := (Below.refl _ _).alloc (Nat.le_refl _) _
  refine appendL_F hgd s x t e ho ht hinfo hzs hk hby hone base a n c l (hown.keep hb0) hs _ _ _ l2 hx (lit_flats w e l2 cs hown.2.2.2 hk hcs hok2) hn (by omega) (by simp; omega) ?_
  intro a' c' w' h1 h2 h3 _
  have h4 : Below base w w' := (hb0.mono hbase).trans h2
  exact K a' c' w' h1 h4 (hD.own h4 hw0)
theorem appI3 {zv : Value} {by' : Nat} {P : Program} {w w0 : World} {T : TypeId} {lo b : Nat} {ops : Array Oper} {rest : List Oper} {o : Oper} {act : Act} {Q : Exit → Act → World → Prop} {x0 x1 x2 : Int} {t e : TypeId} (hgd : o.guard = none) (s x : Operand)
    (ho : o.op = .call { callee := .builtin .append, args := #[s, x], argTypes := #[t, t] }) (ht : P.underlying t = some (.slice e)) (hinfo : (P.info? e).map (fun i => (i.zero, i.size, i.bytes)) = some (some zv, 3, by'))
    (hzs : zv.cells.size = 3) (hby : by' ≤ 128) (base : Nat) (a : Option Addr) (n c : Nat) (l : List I3) (hown : OwnF 3 I3.enc I3.ok e w base a n c l) (hs : act.eval s = .slice a n c) (gx : Nat) (hx : act.eval x = .slice (some ⟨gx, 0, none⟩) 1 1) (hg : gx = w.heap.size) (h0 : I64 x0) (h1 : I64 x1) (h2 : I64 x2)
    (hn : n ≤ 4194304) (hD : Dw T lo b w0 w) (hw0 : w0.heap.size ≤ base) (hbase : base ≤ w.heap.size)
    (K : ∀ a' c' w', OwnF 3 I3.enc I3.ok e w' base a' (n + 1) c' (l ++ [⟨x0, x1, x2⟩]) → Below base w w' → Dw T lo b w0 w' → wpList P ops Q rest (act.put o.dst (.slice a' (n + 1) c')) w') : wpList P ops Q (o :: rest) act (w.alloc (.cells #[.int .i64 x0, .int .i64 x1, .int .i64 x2] e)) :=
  appF (m := 1) (l2 := [⟨x0, x1, x2⟩]) hgd s x ho ht hinfo hzs (by decide) hby I3.one base a n c l hown hs gx hx hg rfl rfl (by intro y hy; simp at hy; subst hy; exact ⟨h0, h1, h2⟩) hn (by decide) hD hw0 hbase K
theorem appI3x2 {zv : Value} {by' : Nat} {P : Program} {w w0 : World} {T : TypeId} {lo b : Nat} {ops : Array Oper} {rest : List Oper} {o : Oper} {act : Act} {Q : Exit → Act → World → Prop} {x0 x1 x2 y0 y1 y2 : Int} {t e : TypeId} (hgd : o.guard = none) (s x : Operand)
    (ho : o.op = .call { callee := .builtin .append, args := #[s, x], argTypes := #[t, t] }) (ht : P.underlying t = some (.slice e)) (hinfo : (P.info? e).map (fun i => (i.zero, i.size, i.bytes)) = some (some zv, 3, by'))
    (hzs : zv.cells.size = 3) (hby : by' ≤ 128) (base : Nat) (a : Option Addr) (n c : Nat) (l : List I3) (hown : OwnF 3 I3.enc I3.ok e w base a n c l) (hs : act.eval s = .slice a n c) (gx : Nat) (hx : act.eval x = .slice (some ⟨gx, 0, none⟩) 2 2) (hg : gx = w.heap.size) (h0 : I64 x0) (h1 : I64 x1) (h2 : I64 x2) (h3 : I64 y0) (h4 : I64 y1) (h5 : I64 y2)
    (hn : n ≤ 4194304) (hD : Dw T lo b w0 w) (hw0 : w0.heap.size ≤ base) (hbase : base ≤ w.heap.size)
    (K : ∀ a' c' w', OwnF 3 I3.enc I3.ok e w' base a' (n + 2) c' (l ++ [⟨x0, x1, x2⟩, ⟨y0, y1, y2⟩]) → Below base w w' → Dw T lo b w0 w' → wpList P ops Q rest (act.put o.dst (.slice a' (n + 2) c')) w') : wpList P ops Q (o :: rest) act (w.alloc (.cells #[.int .i64 x0, .int .i64 x1, .int .i64 x2, .int .i64 y0, .int .i64 y1, .int .i64 y2] e)) :=
  appF (m := 2) (l2 := [⟨x0, x1, x2⟩, ⟨y0, y1, y2⟩]) hgd s x ho ht hinfo hzs (by decide) hby I3.one base a n c l hown hs gx hx hg rfl rfl (by intro y hy; simp at hy; rcases hy with rfl | rfl; exact ⟨h0, h1, h2⟩; exact ⟨h3, h4, h5⟩) hn (by decide) hD hw0 hbase K
theorem appI2 {zv : Value} {by' : Nat} {P : Program} {w w0 : World} {T : TypeId} {lo b : Nat} {ops : Array Oper} {rest : List Oper} {o : Oper} {act : Act} {Q : Exit → Act → World → Prop} {x0 x1 : Int} {t e : TypeId} (hgd : o.guard = none) (s x : Operand)
    (ho : o.op = .call { callee := .builtin .append, args := #[s, x], argTypes := #[t, t] }) (ht : P.underlying t = some (.slice e)) (hinfo : (P.info? e).map (fun i => (i.zero, i.size, i.bytes)) = some (some zv, 2, by'))
    (hzs : zv.cells.size = 2) (hby : by' ≤ 128) (base : Nat) (a : Option Addr) (n c : Nat) (l : List I2) (hown : OwnF 2 I2.enc I2.ok e w base a n c l) (hs : act.eval s = .slice a n c) (gx : Nat) (hx : act.eval x = .slice (some ⟨gx, 0, none⟩) 1 1) (hg : gx = w.heap.size) (h0 : I64 x0) (h1 : I64 x1)
    (hn : n ≤ 4194304) (hD : Dw T lo b w0 w) (hw0 : w0.heap.size ≤ base) (hbase : base ≤ w.heap.size)
    (K : ∀ a' c' w', OwnF 2 I2.enc I2.ok e w' base a' (n + 1) c' (l ++ [⟨x0, x1⟩]) → Below base w w' → Dw T lo b w0 w' → wpList P ops Q rest (act.put o.dst (.slice a' (n + 1) c')) w') : wpList P ops Q (o :: rest) act (w.alloc (.cells #[.int .i64 x0, .int .i64 x1] e)) :=
  appF (m := 1) (l2 := [⟨x0, x1⟩]) hgd s x ho ht hinfo hzs (by decide) hby I2.one base a n c l hown hs gx hx hg rfl rfl (by intro y hy; simp at hy; subst hy; exact ⟨h0, h1⟩) hn (by decide) hD hw0 hbase K
end Go.Proofs.YtjneodmohkpckaaGreatDoor
