/- The source of drawn numbers, walked. -/
import Derived.Test.YtjneodmohkpckaaGreatDoorOw
import Derived.RegionTactic
import Derived.BigRegion
namespace Go.Proofs.YtjneodmohkpckaaGreatDoor
open Go.RowKit
set_option linter.unusedVariables false
set_option linter.unusedSimpArgs false
instance I64.dec (x : Int) : Decidable (I64 x) := inferInstanceAs (Decidable (_ ∧ _))
/-- bytes that are read: '.slice a n c' -/
structure Byts (w : World) (a : Option Addr) (n c : Nat) : Prop where
  cap : n ≤ c
  pos : n = 0 ∨ ∃ b off, a = some ⟨b, off, none⟩ ∧ b < w.heap.size ∧ ∀ i, i < n → ∃ x : Int, 0 ≤ x ∧ x ≤ 255 ∧ w.cell? ⟨b, off + i, none⟩ = some (.int .u8 x)
theorem Byts.keep {w w' : World} {a : Option Addr} {n c : Nat} (h : Byts w a n c) (hb : Below w.heap.size w w') : Byts w' a n c := by
  refine ⟨h.cap, ?_⟩
  rcases h.pos with h0 | ⟨b, off, ha, hlt, hc⟩
  · exact .inl h0
  · exact .inr ⟨b, off, ha, Nat.lt_of_lt_of_le hlt hb.size, fun i hi => by obtain ⟨x, h1, h2, h3⟩ := hc i hi; exact ⟨x, h1, h2, (hb.cell (p := ⟨b, off + i, none⟩) hlt).trans h3⟩⟩
theorem Byts.at {w : World} {a : Option Addr} {n c : Nat} (h : Byts w a n c) {k : Nat} (hk : k < n) : ∃ b off x, a = some ⟨b, off, none⟩ ∧ b < w.heap.size ∧ (0 : Int) ≤ x ∧ x ≤ 255 ∧ w.cell? ⟨b, off + k, none⟩ = some (.int .u8 x) := by
  obtain ⟨b, off, ha, hlt, hc⟩ := h.pos.resolve_left (by omega)
  obtain ⟨x, h1, h2, h3⟩ := hc k hk
  exact ⟨b, off, x, ha, hlt, h1, h2, h3⟩
/-- bytes in blocks below lo -/
def BytsLo (w : World) (lo : Nat) (a : Option Addr) (n c : Nat) : Prop := Byts w a n c ∧ lo ≤ w.heap.size ∧ (n = 0 ∨ ∃ b off, a = some ⟨b, off, none⟩ ∧ b < lo)
theorem Byts.lo {w : World} {a : Option Addr} {n c : Nat} (h : Byts w a n c) : BytsLo w w.heap.size a n c :=
  ⟨h, Nat.le_refl _, h.pos.imp_right fun ⟨b, off, ha, hlt, _⟩ => ⟨b, off, ha, hlt⟩⟩
theorem BytsLo.below {w w' : World} {lo : Nat} {a : Option Addr} {n c : Nat} (h : BytsLo w lo a n c) (hb : Below lo w w') : BytsLo w' lo a n c := by
  obtain ⟨h1, h2, h3⟩ := h
  refine ⟨⟨h1.cap, ?_⟩, Nat.le_trans h2 hb.size, h3⟩
  rcases h3 with h0 | ⟨b, off, ha, hlt⟩
  · exact .inl h0
  · rcases h1.pos with h0 | ⟨b', off', ha', hlt', hc⟩
    · exact .inl h0
    · rw [ha] at ha'
      simp only [Option.some.injEq, Addr.mk.injEq, and_true] at ha'
      obtain ⟨rfl, rfl⟩ := ha'
      exact .inr ⟨b, off, ha, Nat.lt_of_lt_of_le hlt' hb.size, fun i hi => by obtain ⟨x, h1, h2, h3⟩ := hc i hi; exact ⟨x, h1, h2, (hb.cell (p := ⟨b, off + i, none⟩) hlt).trans h3⟩⟩
/-- block b is a source whose bytes lie below lo -/
def Src (T : TypeId) (w : World) (lo b : Nat) : Prop :=
  ∃ a n c p s, Blk w b #[.slice a n c, .int .i64 p, .int .i64 s] T ∧ BytsLo w lo a n c ∧ n ≤ 4096 ∧ 0 ≤ p ∧ p ≤ n ∧ 0 ≤ s ∧ s < 2147483647 ∧ lo ≤ b
theorem Src.lt {T : TypeId} {w : World} {lo b : Nat} (h : Src T w lo b) : lo ≤ b ∧ b < w.heap.size := by
  obtain ⟨a, n, c, p, s, h1, _, _, _, _, _, _, h2⟩ := h
  exact ⟨h2, h1.lt⟩
theorem Only.lower {lo hi : Nat} {w w' : World} (h : Only lo hi w w') (hl : lo ≤ w.heap.size) : Below lo w w' :=
  ⟨h.os, h.tape, h.output, h.size, fun k hk => h.block k (by omega) (.inl hk)⟩
/-- the source stays where other blocks from lo on are written -/
theorem Src.apart {T : TypeId} {w w' : World} {lo b l2 h2 : Nat} (h : Src T w lo b) (ho : Only l2 h2 w w') (hd : b < l2 ∨ h2 ≤ b) (hl : lo ≤ l2) : Src T w' lo b := by
  have hlt := h.lt
  obtain ⟨a, n, c, p, s, h1, h3, r⟩ := h
  refine ⟨a, n, c, p, s, h1.apart ho hd, h3.below ?_, r⟩
  exact ⟨ho.os, ho.tape, ho.output, ho.size, fun k hk => ho.block k (by omega) (.inl (by omega))⟩
theorem Src.keep {T : TypeId} {w w' : World} {lo b : Nat} (h : Src T w lo b) (hb : Below w.heap.size w w') : Src T w' lo b :=
  h.apart (Only.of_below (lo := w.heap.size) (hi := w.heap.size) hb) (.inl h.lt.2) (Nat.le_of_lt (Nat.lt_of_le_of_lt h.lt.1 h.lt.2))
theorem Src.alloc {T : TypeId} {w : World} {lo b : Nat} (h : Src T w lo b) (o : Obj) : Src T (w.alloc o) lo b := h.keep ((Below.refl _ _).alloc (Nat.le_refl _) o)
theorem Src.drewN {T : TypeId} {w : World} {lo b : Nat} (h : Src T w lo b) (n : Nat) : Src T (w.drewN n) lo b := h.keep ⟨rfl, rfl, rfl, Nat.le_refl _, fun _ _ => rfl⟩
theorem Src.drew {T : TypeId} {w : World} {lo b : Nat} (h : Src T w lo b) : Src T w.drew lo b := h.keep ⟨rfl, rfl, rfl, Nat.le_refl _, fun _ _ => rfl⟩
theorem Src.set {T : TypeId} {w : World} {lo b b' : Nat} (h : Src T w lo b) (hb : b' ≠ b) (hl : lo ≤ b') (i : Nat) (v : Value) : Src T (w.setCell ⟨b', i, none⟩ v) lo b := by
  have := (Only.refl b' (b' + 1) w).set ⟨Nat.le_refl _, Nat.lt_succ_self _⟩ i v
  exact h.apart this (by omega) hl
theorem Blk.set {w : World} {b : Nat} {cs : Array Value} {T : TypeId} (h : Blk w b cs T) (i : Nat) (v : Value) : Blk (w.setCell ⟨b, i, none⟩ v) b (cs.setIfInBounds i v) T := by
  exact heap_setCell_same w b i cs T v h
set_option maxHeartbeats 1000000 in
theorem spec_l01From {lo : Nat} {a : Option Addr} {n c : Nat} {w : World} (hB : Byts w a n c) (hn : n ≤ 4096) (hl : n = 0 ∨ ∃ b off, a = some ⟨b, off, none⟩ ∧ b < lo) (hlw : lo ≤ w.heap.size) :
    Calls Tryz.prog 42 #[.slice a n c] w fun e w' => ∃ b, e = .returned (.pointer (some ⟨b, 0, none⟩)) ∧ Below w.heap.size w w' ∧ w.heap.size ≤ b ∧ Src 107 w' lo b := by
  have HL := Lib.hid hl
  clear hl
  have HB := Lib.hid hB
  clear hB
  go_enter Tryz.func42, Tryz.ntmps42
  have B0 := Lib.hid (Blk.made w #[.slice a n c, .int .i64 0, .int .i64 52021] 107)
  have hb0 : Below w.heap.size w (w.alloc (.cells #[.slice a n c, .int .i64 0, .int .i64 52021] 107)) := bel
  go_wp2
  go_loopw [4] (fun s4 wr => ∃ (k : Nat) (sd : Int), k ≤ n ∧ s4 = .int .i64 k ∧ 0 ≤ sd ∧ sd < 2147483647 ∧ Below w.heap.size w wr ∧ Hid (Blk wr w.heap.size #[.slice a n c, .int .i64 0, .int .i64 sd] 107)) (fun s4 _ => n - (intOf s4).toNat)
  case atStart => exact ⟨0, 52021, Nat.zero_le _, rfl, by omega, by omega, hb0, B0⟩
  case round =>
    clear B0 hb0
    obtain ⟨k, sd, hk, rfl, h0, h1, hbl, B⟩ := hrel
    have hk0 : (0 : Int) ≤ (k : Int) := by omega
    have c0 := B.out.cell 0
    have c1 := B.out.cell 1
    have c2 := B.out.cell 2
    have z1 := B.out.lt
    have hfz := B.out.free
    simp at c0 c1 c2
    by_cases hlt : k < n ∧ k < 64
    · obtain ⟨b, off, x, rfl, hb, hx0, hx1, hcell⟩ := (HB.out.keep hbl).at hlt.1
      have hk1 : (k : Int) < (n : Int) := by omega
      have hk2 : (k : Int) < 64 := by omega
      have e1 : IntKind.i64.wrap (sd * 59) = sd * 59 := IntWalk.i64_in _ (by omega)
      have e2 : IntKind.i64.wrap x = x := IntWalk.i64_in _ (by omega)
      have e3 : IntKind.i64.wrap (sd * 59 + x) = sd * 59 + x := IntWalk.i64_in _ (by omega)
      go_wp2
      go_region
      go_wp2
      go_roundw
      case rel => exact ⟨k + 1, (sd * 59 + x) % 2147483647, by omega, by go_num, by omega, by omega, bel, Blk.drew (B.out.set 2 _)⟩
      case measure => simp [intOf]; omega
    · by_cases hlt2 : k < n
      · have hk1 : (k : Int) < (n : Int) := by omega
        have hk2 : ¬ (k : Int) < 64 := by omega
        go_wp2
        go_ret
        exact ⟨w.heap.size, rfl, hbl, Nat.le_refl _, a, n, c, 0, sd, B.out, ⟨HB.out.keep hbl, Nat.le_trans hlw hbl.size, HL.out⟩, hn, by omega, by omega, h0, h1, hlw⟩
      · have hk1 : ¬ (k : Int) < (n : Int) := by omega
        go_wp2
        go_ret
        exact ⟨w.heap.size, rfl, hbl, Nat.le_refl _, a, n, c, 0, sd, B.out, ⟨HB.out.keep hbl, Nat.le_trans hlw hbl.size, HL.out⟩, hn, by omega, by omega, h0, h1, hlw⟩
def allI64 : List Int → Prop
  | [] => True
  | x :: r => I64 x ∧ allI64 r
theorem allI64.mem : ∀ {l : List Int}, allI64 l → ∀ x ∈ l, I64 x
  | [], _, x, h => by cases h
  | y :: r, h, x, hx => by
    rcases List.mem_cons.1 hx with rfl | hx
    · exact h.1
    · exact allI64.mem h.2 x hx
theorem ints_lit (w : World) (T : TypeId) (l : List Int) (hw : allI64 l) : Ints (w.alloc (.cells (l.map (Value.int .i64)).toArray T)) (some ⟨w.heap.size, 0, none⟩) l.length l.length l := by
  refine ⟨rfl, Nat.le_refl _, .inr ⟨w.heap.size, 0, rfl, by simp, fun i x hx => ?_⟩, hw.mem, fun h => by cases h⟩
  have := (Blk.made w (l.map (Value.int .i64)).toArray T).cell i
  rw [Nat.zero_add, this]
  simp [hx]
/-- what l01Next answers -/
def NextIn (n r : Int) : Prop := 0 ≤ r ∧ (n ≤ 1 → r = 0) ∧ (1 < n → r < n)
theorem NextIn.i64 {n r : Int} (h : NextIn n r) (hn : I64 n) : I64 r := by
  obtain ⟨h1, h2, h3⟩ := h
  unfold I64 at hn ⊢
  by_cases h : n ≤ 1
  · have := h2 h; omega
  · have := h3 (by omega); omega
theorem NextIn.mod {n x : Int} (hn : 1 < n) : NextIn n (x % n) := ⟨Int.emod_nonneg _ (by omega), fun h => by omega, fun _ => Int.emod_lt_of_pos _ (by omega)⟩
set_option maxHeartbeats 1000000 in
theorem spec_l01Next {b lo : Nat} {n : Int} {w : World} (hS : Src 107 w lo b) (hn : I64 n) :
    Calls Tryz.prog 49 #[.pointer (some ⟨b, 0, none⟩), .int .i64 n] w fun e w' => ∃ r, e = .returned (.int .i64 r) ∧ NextIn n r ∧ Only b (b + 1) w w' ∧ Src 107 w' lo b := by
  by_cases hn1 : n ≤ 1
  · have HS := Lib.hid hS
    clear hS
    go_enter Tryz.func49, Tryz.ntmps49
    go_wp2
    go_ret
    exact ⟨0, rfl, ⟨by omega, fun _ => rfl, fun h => by omega⟩, by repeat (first | with_reducible exact Only.refl _ _ _ | with_reducible assumption | with_reducible refine Only.set ?_ (by first | omega | (simp; omega)) _ _ | with_reducible refine Only.setN ?_ (by first | omega | (simp; omega)) _ _ | with_reducible refine Only.alloc ?_ _ | with_reducible refine Only.drew ?_ | with_reducible refine Only.drewN ?_ _ | with_reducible refine Only.then ?_ (by assumption) | with_reducible refine Only.trans ?_ (by assumption)), HS.out⟩
  · obtain ⟨a, m, c, p, sd, B, hBy, hm, hp0, hp1, hs0, hs1, hlo⟩ := hS
    have HB := Lib.hid B
    have HY := Lib.hid hBy
    have hfz := B.free
    have c0 := B.cell 0
    have c1 := B.cell 1
    have c2 := B.cell 2
    have z1 := B.lt
    simp at c0 c1 c2
    clear B hBy
    have e1 : IntKind.i64.wrap (sd * 48271) = sd * 48271 := IntWalk.i64_in _ (by omega)
    have e2 : IntKind.i64.wrap (sd * 48271 + 29) = sd * 48271 + 29 := IntWalk.i64_in _ (by omega)
    have e4 : IntKind.i64.wrap (p + 1) = p + 1 := IntWalk.i64_in _ (by omega)
    have e5 : ¬ n = 0 := by omega
    by_cases hpm : p < m
    · obtain ⟨p', rfl⟩ := Int.eq_ofNat_of_zero_le hp0
      obtain ⟨b', off, x, rfl, hb', hx0, hx1, hcell⟩ := HY.out.1.at (k := p') (by omega)
      have e3 : IntKind.i64.wrap x = x := IntWalk.i64_in _ (by omega)
      have hne : b' ≠ b := by
        rcases HY.out.2.2 with h | ⟨q, o, h1, h2⟩
        · omega
        · simp at h1; omega
      have hBY : ∀ w', Only b (b + 1) w w' → BytsLo w' lo (some ⟨b', off, none⟩) m c := fun w' ho => HY.out.below (ho.below (Below.refl _ _) hlo (Nat.le_of_lt (Nat.lt_of_le_of_lt hlo z1)))
      have HBY := Lib.hid hBY
      clear hBY
      by_cases hn2 : n ≤ 256
      · by_cases hn3 : (p' + 1) % 2 = 0
        · have e7 : ((p' : Int) + 1) % 2 = 0 := by omega
          go_enter Tryz.func49, Tryz.ntmps49
          go_wp2
          go_quiet (fail)
          go_wp2
          go_quiet (fail)
          go_wp2
          go_quiet (fail)
          go_wp2
          go_ret
          exact ⟨_, rfl, NextIn.mod (by omega), by repeat (first | with_reducible exact Only.refl _ _ _ | with_reducible assumption | with_reducible refine Only.set ?_ (by first | omega | (simp; omega)) _ _ | with_reducible refine Only.setN ?_ (by first | omega | (simp; omega)) _ _ | with_reducible refine Only.alloc ?_ _ | with_reducible refine Only.drew ?_ | with_reducible refine Only.drewN ?_ _ | with_reducible refine Only.then ?_ (by assumption) | with_reducible refine Only.trans ?_ (by assumption)), _, _, _, _, _, (HB.out.set 2 _).set 1 _, HBY.out _ (by repeat (first | with_reducible exact Only.refl _ _ _ | with_reducible assumption | with_reducible refine Only.set ?_ (by first | omega | (simp; omega)) _ _ | with_reducible refine Only.setN ?_ (by first | omega | (simp; omega)) _ _ | with_reducible refine Only.alloc ?_ _ | with_reducible refine Only.drew ?_ | with_reducible refine Only.drewN ?_ _ | with_reducible refine Only.then ?_ (by assumption) | with_reducible refine Only.trans ?_ (by assumption))), hm, by omega, by omega, Int.emod_nonneg _ (by omega), Int.emod_lt_of_pos _ (by omega), hlo⟩
        · have e7 : ¬ ((p' : Int) + 1) % 2 = 0 := by omega
          go_enter Tryz.func49, Tryz.ntmps49
          go_wp2
          go_quiet (fail)
          go_wp2
          go_quiet (fail)
          go_wp2
          go_ret
          exact ⟨_, rfl, NextIn.mod (by omega), by repeat (first | with_reducible exact Only.refl _ _ _ | with_reducible assumption | with_reducible refine Only.set ?_ (by first | omega | (simp; omega)) _ _ | with_reducible refine Only.setN ?_ (by first | omega | (simp; omega)) _ _ | with_reducible refine Only.alloc ?_ _ | with_reducible refine Only.drew ?_ | with_reducible refine Only.drewN ?_ _ | with_reducible refine Only.then ?_ (by assumption) | with_reducible refine Only.trans ?_ (by assumption)), _, _, _, _, _, (HB.out.set 2 _).set 1 _, HBY.out _ (by repeat (first | with_reducible exact Only.refl _ _ _ | with_reducible assumption | with_reducible refine Only.set ?_ (by first | omega | (simp; omega)) _ _ | with_reducible refine Only.setN ?_ (by first | omega | (simp; omega)) _ _ | with_reducible refine Only.alloc ?_ _ | with_reducible refine Only.drew ?_ | with_reducible refine Only.drewN ?_ _ | with_reducible refine Only.then ?_ (by assumption) | with_reducible refine Only.trans ?_ (by assumption))), hm, by omega, by omega, Int.emod_nonneg _ (by omega), Int.emod_lt_of_pos _ (by omega), hlo⟩
      · go_enter Tryz.func49, Tryz.ntmps49
        go_wp2
        go_quiet (fail)
        go_wp2
        go_quiet (fail)
        go_wp2
        go_ret
        exact ⟨_, rfl, NextIn.mod (by omega), by repeat (first | with_reducible exact Only.refl _ _ _ | with_reducible assumption | with_reducible refine Only.set ?_ (by first | omega | (simp; omega)) _ _ | with_reducible refine Only.setN ?_ (by first | omega | (simp; omega)) _ _ | with_reducible refine Only.alloc ?_ _ | with_reducible refine Only.drew ?_ | with_reducible refine Only.drewN ?_ _ | with_reducible refine Only.then ?_ (by assumption) | with_reducible refine Only.trans ?_ (by assumption)), _, _, _, _, _, (HB.out.set 2 _).set 1 _, HBY.out _ (by repeat (first | with_reducible exact Only.refl _ _ _ | with_reducible assumption | with_reducible refine Only.set ?_ (by first | omega | (simp; omega)) _ _ | with_reducible refine Only.setN ?_ (by first | omega | (simp; omega)) _ _ | with_reducible refine Only.alloc ?_ _ | with_reducible refine Only.drew ?_ | with_reducible refine Only.drewN ?_ _ | with_reducible refine Only.then ?_ (by assumption) | with_reducible refine Only.trans ?_ (by assumption))), hm, by omega, by omega, Int.emod_nonneg _ (by omega), Int.emod_lt_of_pos _ (by omega), hlo⟩
    · have hBY : ∀ w', Only b (b + 1) w w' → BytsLo w' lo a m c := fun w' ho => HY.out.below (ho.below (Below.refl _ _) hlo (Nat.le_of_lt (Nat.lt_of_le_of_lt hlo z1)))
      have HBY := Lib.hid hBY
      clear hBY
      go_enter Tryz.func49, Tryz.ntmps49
      go_wp2
      go_quiet (fail)
      go_wp2
      go_ret
      exact ⟨_, rfl, NextIn.mod (by omega), by repeat (first | with_reducible exact Only.refl _ _ _ | with_reducible assumption | with_reducible refine Only.set ?_ (by first | omega | (simp; omega)) _ _ | with_reducible refine Only.setN ?_ (by first | omega | (simp; omega)) _ _ | with_reducible refine Only.alloc ?_ _ | with_reducible refine Only.drew ?_ | with_reducible refine Only.drewN ?_ _ | with_reducible refine Only.then ?_ (by assumption) | with_reducible refine Only.trans ?_ (by assumption)), _, _, _, _, _, HB.out.set 2 _, HBY.out _ (by repeat (first | with_reducible exact Only.refl _ _ _ | with_reducible assumption | with_reducible refine Only.set ?_ (by first | omega | (simp; omega)) _ _ | with_reducible refine Only.setN ?_ (by first | omega | (simp; omega)) _ _ | with_reducible refine Only.alloc ?_ _ | with_reducible refine Only.drew ?_ | with_reducible refine Only.drewN ?_ _ | with_reducible refine Only.then ?_ (by assumption) | with_reducible refine Only.trans ?_ (by assumption))), hm, by omega, by omega, Int.emod_nonneg _ (by omega), Int.emod_lt_of_pos _ (by omega), hlo⟩
set_option maxHeartbeats 1000000 in
theorem spec_l01Pick {b lo : Nat} {a : Option Addr} {n c : Nat} {l : List Int} {w : World} (hS : Src 107 w lo b) (hI : Ints w a n c l) (hn : n ≤ 1048576) (h0 : 0 < n) (hb : ∀ g off, a = some ⟨g, off, none⟩ → g ≠ b) :
    Calls Tryz.prog 131 #[.pointer (some ⟨b, 0, none⟩), .slice a n c] w fun e w' => ∃ r, e = .returned (.int .i64 r) ∧ r ∈ l ∧ I64 r ∧ Only b (b + 1) w w' ∧ Src 107 w' lo b := by
  have HI := Lib.hid hI
  have hS' := Lib.hid hS
  clear hS hI
  have hni : I64 (n : Int) := ⟨by omega, by omega⟩
  go_enter Tryz.func131, Tryz.ntmps131
  go_wp2_with fail
  refine Calls.mono (spec_l01Next hS'.out hni) ?_
  rintro e w1 ⟨r, rfl, hr, ho, hS1⟩
  have hr0 := hr.1
  have hrn : r < (n : Int) := by
    by_cases h1 : (n : Int) ≤ 1
    · have := hr.2.1 h1; omega
    · exact hr.2.2 (by omega)
  obtain ⟨q, rfl⟩ := Int.eq_ofNat_of_zero_le hr0
  obtain ⟨g, off, x, rfl, hg, hx, hcell, hwf⟩ := (HI.out.only ho (fun g off e => by have := hb g off e; omega)).at (k := q) (by omega)
  have Hx := Lib.hid (List.mem_of_getElem? hx)
  clear hx
  have HS1 := Lib.hid hS1
  clear hS1 hr
  go_wp2
  go_ret
  exact ⟨x, rfl, Hx.out, hwf, ho, HS1.out⟩
end Go.Proofs.YtjneodmohkpckaaGreatDoor
