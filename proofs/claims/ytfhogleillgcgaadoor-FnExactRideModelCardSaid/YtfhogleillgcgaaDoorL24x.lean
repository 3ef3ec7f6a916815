/- All rules of a ride model, walked. -/
import Derived.Test.YtfhogleillgcgaaDoorL24w
namespace Go.Proofs.YtfhogleillgcgaaDoor
open Go.RowKit
set_option linter.unusedVariables false
set_option linter.unusedSimpArgs false
def SOk (S : List RS) : Prop := ∀ s ∈ S, s.g ≠ [] ∧ s.e ≠ []
theorem trS_ok (n B i b : Nat) (sec : Bool) : SOk (trS n B i b sec) := by
  intro s hs
  cases sec <;> simp [trS] at hs
  · rcases hs with rfl | rfl | rfl <;> simp [freeL]
  · rcases hs with rfl | rfl | rfl | rfl <;> simp [freeL]
theorem faS_ok (n B b q : Nat) (sec : Bool) : SOk (faS n B b q sec) := by
  intro s hs
  cases sec <;> simp [faS] at hs
  · rcases hs with rfl | rfl <;> simp [faG, faE]
  · rcases hs with rfl | rfl | rfl <;> simp [faG, faE]
theorem trS_len (n B i b : Nat) (sec : Bool) : 0 < (trS n B i b sec).length ∧ (trS n B i b sec).length ≤ 4 := by cases sec <;> simp [trS]
theorem faS_len (n B b q : Nat) (sec : Bool) : 0 < (faS n B b q sec).length ∧ (faS n B b q sec).length ≤ 3 := by cases sec <;> simp [faS]
theorem trS_x (n B i b : Nat) (sec : Bool) : (trS n B i b sec).map (·.x) = trK i b sec 4 := by
  cases sec <;> simp [trS, trK, List.range, List.range.loop, List.filter]
theorem faS_x (n B b q : Nat) (sec : Bool) : (faS n B b q sec).map (·.x) = faK b q sec 3 := by
  cases sec <;> simp [faS, faK, List.range, List.range.loop, List.filter]
def trSB (n B i : Nat) (sec : Bool) (q : Nat) : List RS := (List.range q).flatMap fun b => trS n B i b sec
def trSI (n B : Nat) (sec : Bool) (q : Nat) : List RS := (List.range q).flatMap fun i => trSB n B i sec B
def faSJ (n B b bud : Nat) (sec : Bool) (q : Nat) : List RS := (List.range q).flatMap fun j => faS n B b (bud - j) sec
def faSI (n B bud : Nat) (sec : Bool) (q : Nat) : List RS := (List.range q).flatMap fun b => faSJ n B b bud sec bud
def rulesS (n B bud : Nat) (sec : Bool) : List RS := trSI n B sec n ++ faSI n B bud sec B
theorem rulesS_x (n B bud : Nat) (sec : Bool) : (rulesS n B bud sec).map (·.x) = kindsL n B bud sec := by
  simp only [rulesS, kindsL, trSI, trSB, faSI, faSJ, trI, trB', faI, faB, List.map_append, List.map_flatMap, trS_x, faS_x]
theorem RDs.keepG {w w' : World} {base : Nat} {r : Option Nat} (hg : w.grownBy w' r) : ∀ {L : List RR} {S : List RS}, RDs w base L S → (∀ b ∈ L.flatMap RR.blks, r ≠ some b) → RDs w' base L S
  | [], [], _, _ => trivial
  | x :: _, _ :: _, h, hn => by
    have h1 := hn _ (by simp [RR.blks] : (x.ga.map (·.block)).getD 0 ∈ _)
    have h2 := hn _ (by simp [RR.blks] : (x.ea.map (·.block)).getD 0 ∈ _)
    refine ⟨⟨h.1.1, h.1.2.1, h.1.2.2.1.keepG hg fun g e => ?_, h.1.2.2.2.keepG hg fun g e => ?_⟩, RDs.keepG hg h.2 fun b hb => hn b (by rw [List.flatMap_cons]; exact List.mem_append_right _ hb)⟩
    · rw [e] at h1; exact h1
    · rw [e] at h2; exact h2
  | [], _ :: _, h, _ => h.elim
  | _ :: _, [], h, _ => h.elim
theorem RDs.blt {w : World} {base : Nat} : ∀ {L : List RR} {S : List RS}, RDs w base L S → SOk S → ∀ b ∈ L.flatMap RR.blks, base ≤ b ∧ b < w.heap.size
  | [], [], _, _ => fun b hb => by cases hb
  | x :: L, s :: S, h, hS => fun b hb => by
    rw [List.flatMap_cons] at hb
    rcases List.mem_append.1 hb with hb | hb
    · have h0 := hS s (List.mem_cons_self ..)
      have l1 := h.1.2.2.1.len
      have l2 := h.1.2.2.2.len
      have p1 := List.length_pos_iff.2 h0.1
      have p2 := List.length_pos_iff.2 h0.2
      simp only [RR.blks, List.mem_cons, List.not_mem_nil, or_false] at hb
      rcases hb with rfl | rfl
      · exact h.1.2.2.1.isSome (by omega)
      · exact h.1.2.2.2.isSome (by omega)
    · exact RDs.blt h.2 (fun s hs => hS s (List.mem_cons_of_mem _ hs)) b hb
  | [], _ :: _, h, _ => h.elim
  | _ :: _, [], h, _ => h.elim
/-- a list of rules of the call's own, each with guard and effect of the call's own, all apart -/
structure RL (w : World) (base : Nat) (a : Option Addr) (n c : Nat) (L : List RR) (S : List RS) : Prop where
  own : OwnF 6 RR.enc (fun _ => True) 87 w base a n c L
  rds : RDs w base L S
  nd : (L.flatMap RR.blks).Nodup
  bl : ∀ b ∈ L.flatMap RR.blks, base ≤ b ∧ b < w.heap.size
  ap : ∀ g, a = some ⟨g, 0, none⟩ → g ∉ L.flatMap RR.blks
theorem RL.keep {w w' : World} {base : Nat} {a : Option Addr} {n c : Nat} {L : List RR} {S : List RS} (h : RL w base a n c L S) (hb : Below w.heap.size w w') : RL w' base a n c L S :=
  ⟨h.own.keep hb, h.rds.keep hb, h.nd, fun b hb' => ⟨(h.bl b hb').1, Nat.lt_of_lt_of_le (h.bl b hb').2 hb.size⟩, h.ap⟩
theorem RL.nil (w : World) (base : Nat) : RL w base none 0 0 [] [] :=
  ⟨⟨World.ownsRow_nil w base _ 6, (fun _ h => by cases h), rfl, fun _ => rfl⟩, trivial, List.nodup_nil, (fun b h => by cases h), fun g h => by cases h⟩
theorem RL.app {w w1 wn : World} {base : Nat} {a : Option Addr} {n c m g' c' : Nat} {L L2 : List RR} {S S2 : List RS} (h : RL w base a n c L S) (hb : Below w.heap.size w w1) (hbase : base ≤ w.heap.size)
    (r2 : RDs w1 w.heap.size L2 S2) (nd2 : (L2.flatMap RR.blks).Nodup) (ok2 : SOk S2) (hown : OwnF 6 RR.enc (fun _ => True) 87 wn base (some ⟨g', 0, none⟩) (n + m) c' (L ++ L2))
    (hg : w1.grownBy wn (Value.slice a n c).ownBlock) (hat : a = some ⟨g', 0, none⟩ ∨ g' = w1.heap.size) : RL wn base (some ⟨g', 0, none⟩) (n + m) c' (L ++ L2) (S ++ S2) := by
  have hbl2 := r2.blt ok2
  have hform : ∀ q, a = some q → ∃ g, q = ⟨g, 0, none⟩ := fun q hq => by
    rcases h.own.1.2 with ⟨he, _⟩ | ⟨g, cap, cur, he, _⟩
    · simp only [Value.slice.injEq] at he; rw [hq] at he; cases he.1
    · simp only [Value.slice.injEq] at he; rw [hq] at he; exact ⟨g, Option.some.inj he.1⟩
  have hne : ∀ b, (Value.slice a n c).ownBlock = some b → a = some ⟨b, 0, none⟩ := fun b e => by
    cases a with
    | none => simp [Value.ownBlock] at e
    | some q =>
      obtain ⟨g, rfl⟩ := hform q rfl
      simp [Value.ownBlock] at e; rw [e]
  have hsz := hg.size
  have hbs := hb.size
  refine ⟨hown, RDs.append ((r2.keepG hg ?_).le hbase) ((h.rds.keep hb).keepG hg ?_), ?_, ?_, ?_⟩
  · intro b hb' e
    have h1 := hne b e
    have h2 := (h.own.blk b h1).2
    have := (hbl2 b hb').1
    omega
  · intro b hb' e
    exact h.ap b (hne b e) hb'
  · rw [List.flatMap_append]
    refine List.nodup_append.2 ⟨h.nd, nd2, fun x hx y hy e => ?_⟩
    have h1 := (h.bl x hx).2
    have h2 := (hbl2 y hy).1
    omega
  · intro b hb'
    rw [List.flatMap_append] at hb'
    rcases List.mem_append.1 hb' with h1 | h1
    · have := h.bl b h1; omega
    · have := hbl2 b h1; omega
  · intro g e hm
    cases e
    rw [List.flatMap_append] at hm
    rcases hat with h0 | h0
    · rcases List.mem_append.1 hm with h1 | h1
      · exact h.ap _ h0 h1
      · have h2 := (h.own.blk _ h0).2
        have := (hbl2 _ h1).1
        omega
    · rcases List.mem_append.1 hm with h1 | h1
      · have := (h.bl _ h1).2; omega
      · have := (hbl2 _ h1).2; omega
def RuRet (w : World) (S : List RS) (e : Ending) (w' : World) : Prop := ∃ a' n' c' L, e = .returned (.slice a' n' c') ∧ RL w' (w.heap.size + 1) a' n' c' L S ∧ n' ≤ 400 ∧ Below w.heap.size w w'
set_option maxRecDepth 100000 in
set_option maxHeartbeats 4000000 in
theorem impl_rules {B bud n c : Nat} {a : Option Addr} {sec : Bool} {w : World} (hT : Tab w 2 (strsCells ruleNm)) (hB : 2 ≤ B) (hB8 : B ≤ 8) (hn : n ≤ 4) (hbud : bud ≤ 2) :
    Calls Tryd.prog 54 #[.agg #[.int .i64 (B : Int), .slice a n c, .int .i64 (bud : Int), .bool sec]] w (RuRet w (rulesS n B bud sec)) := by
  have HT := Lib.hid hT
  have X := Lib.hid (Blk.made w #[.int .i64 (B : Int), .slice a n c, .int .i64 (bud : Int), .bool sec] 79)
  obtain ⟨wA, hwA⟩ : ∃ wA : World, wA = w.alloc (.cells #[.int .i64 (B : Int), .slice a n c, .int .i64 (bud : Int), .bool sec] 79) := ⟨_, rfl⟩
  have hsA : w.heap.size + 1 ≤ wA.heap.size := by rw [hwA]; simp
  have hbA : Below w.heap.size w wA := by rw [hwA]; repeat (first | exact Below.refl _ _ | assumption | refine below_allocS ?_ _ | refine below_callS ?_ (by assumption) | (refine Below.alloc ?_ (by first | omega | (simp; done) | (simp; omega)) _) | (refine Below.setCell ?_ (by first | omega | (simp; done) | (simp; omega)) _) | refine Below.drew ?_ | refine below_drewN ?_ _ | (refine below_call ?_ (by assumption) (by first | omega | (simp; done) | (simp; omega))) | (refine Below.trans ?_ (by assumption)))
  rw [← hwA] at X
  have HwA := Lib.hid hwA
  clear hwA hT
  go_enter Tryd.func54, Tryd.ntmps54
  go_wp2_with fail
  rw [← HwA.out]
  clear HwA
  go_wp2_with fail
  refine Calls.mono (impl_length_i64) ?_
  rintro e _ ⟨rfl, rfl⟩
  go_wp2_with fail
  go_loopw [3, 12] (fun s3 s12 wr => ∃ (a' : Option Addr) (m c' i : Nat) (L : List RR), s3 = .slice a' m c' ∧ s12 = .int .i64 i ∧ i ≤ n ∧ m ≤ 32 * i ∧ w.heap.size + 1 ≤ wr.heap.size ∧ Below w.heap.size w wr ∧ Hid (RL wr (w.heap.size + 1) a' m c' L (trSI n B sec i)) ∧ Hid (Blk wr w.heap.size #[.int .i64 (B : Int), .slice a n c, .int .i64 (bud : Int), .bool sec] 79)) (fun _ s12 _ => n - (intOf s12).toNat)
  case atStart => exact ⟨none, 0, 0, 0, [], rfl, rfl, by omega, by omega, by omega, hbA, Lib.hid (RL.nil _ _), X⟩
  case round =>
    clear X hbA
    obtain ⟨a', m, c', i, L, rfl, rfl, hi, hm, hsr, hbl, O, X⟩ := hrel
    have x0 := X.out.cell 0
    have x1 := X.out.cell 1
    have x2 := X.out.cell 2
    have x3 := X.out.cell 3
    have xl := X.out.lt
    simp at x0 x1 x2 x3
    by_cases hlt : i < n
    · have hlt' : (i : Int) < (n : Int) := by omega
      go_wp2_with fail
      clear x0 x1 x2 x3 xl
      obtain ⟨wo, rfl⟩ : ∃ wo : World, wo = wr := ⟨_, rfl⟩
      go_loopw [3, 18] (fun s3 s18 wr => ∃ (a' : Option Addr) (m c' j : Nat) (L : List RR), s3 = .slice a' m c' ∧ s18 = .int .i64 j ∧ j ≤ B ∧ m ≤ 32 * i + 4 * j ∧ w.heap.size + 1 ≤ wr.heap.size ∧ Below w.heap.size w wr ∧ Hid (RL wr (w.heap.size + 1) a' m c' L (trSI n B sec i ++ trSB n B i sec j)) ∧ Hid (Blk wr w.heap.size #[.int .i64 (B : Int), .slice a n c, .int .i64 (bud : Int), .bool sec] 79)) (fun _ s18 _ => B - (intOf s18).toNat)
      case atStart => exact ⟨_, m, _, 0, L, rfl, rfl, by omega, by omega, by omega, hbl, by show _; rw [show trSI n B sec i ++ trSB n B i sec 0 = trSI n B sec i by simp [trSB]]; exact O, X⟩
      case round =>
        clear O X hbl
        obtain ⟨a', m, c', j, L, rfl, rfl, hj, hm2, hsr, hbl, O, X⟩ := hrel
        have x0 := X.out.cell 0
        have x1 := X.out.cell 1
        have x2 := X.out.cell 2
        have x3 := X.out.cell 3
        have xl := X.out.lt
        simp at x0 x1 x2 x3
        by_cases hjB : j < B
        · have hjB' : (j : Int) < (B : Int) := by omega
          go_wp2_with fail
          clear x0 x1 x2 x3 xl
          refine Calls.mono (impl_trainRules (bud := bud) (HT.out.keep (by repeat (first | exact Below.refl _ _ | assumption | refine below_allocS ?_ _ | refine below_callS ?_ (by assumption) | (refine Below.alloc ?_ (by first | omega | (simp; done) | (simp; omega)) _) | (refine Below.setCell ?_ (by first | omega | (simp; done) | (simp; omega)) _) | refine Below.drew ?_ | refine below_drewN ?_ _ | (refine below_call ?_ (by assumption) (by first | omega | (simp; done) | (simp; omega))) | (refine Below.trans ?_ (by assumption))))) hB hB8 hn hlt hjB) ?_
          rintro e w1 ⟨a2, m2, c2, L2, rfl, ho2, hr2, hn2, hb1⟩
          have hs1 := hb1.size
          have hl2 := ho2.len
          have hl3 := hr2.len
          have hl4 := trS_len n B i j sec
          have hm0 : 0 < m2 := by omega
          have hm4 : m2 ≤ 4 := by omega
          have O2 := Lib.hid ho2.flats
          have R2 := Lib.hid hr2
          have N2 := Lib.hid hn2
          have HB1 := Lib.hid hb1
          clear hl2 hl3 hl4 ho2 hr2 hn2 hb1
          go_wp2_with (at_builtin; refine appAtS rfl _ _ _ _ rfl Tryd.underlying77 Tryd.infoRR rfl (by decide) (by decide) RR.one (w.heap.size + 1) _ _ _ _ (O.out.own.keep HB1.out) rfl _ _ _ _ rfl O2.out hm0 (by omega) (by omega) (by omega) ?_; intro g' c3 wn ho hb hg hat; have O := Lib.hid (RL.app O.out HB1.out (by omega) R2.out N2.out (trS_ok _ _ _ _ _) ho hg hat); have X := Lib.hid ((X.out.keep HB1.out).keepB hb (by omega)); have hbl := Below.trans (below_callS hbl HB1.out) (hb.mono (by omega)); have hsn := hb.size; clear ho hb hg hat)
          go_roundw
          case rel => exact ⟨_, m + m2, _, j + 1, L ++ L2, rfl, by go_num, by omega, by omega, by omega, hbl, by show _; rw [show trSB n B i sec (j + 1) = trSB n B i sec j ++ trS n B i j sec from flat_snoc _ _, ← List.append_assoc]; exact O, X⟩
          case measure => simp [intOf]; omega
        · obtain rfl : B = j := by omega
          have hjB' : ¬ (B : Int) < (B : Int) := by omega
          go_wp2_with fail
          go_roundw
          case rel => exact ⟨_, m, _, i + 1, L, rfl, by go_num, by omega, by omega, hsr, hbl, by show _; rw [show trSI n B sec (i + 1) = trSI n B sec i ++ trSB n B i sec B from flat_snoc _ _]; exact O, X⟩
          case measure => simp [intOf]; omega
    · obtain rfl : n = i := by omega
      have hlt' : ¬ (n : Int) < (n : Int) := by omega
      go_wp2_with fail
      clear x0 x1 x2 x3 xl
      obtain ⟨wo, rfl⟩ : ∃ wo : World, wo = wr := ⟨_, rfl⟩
      go_loopw [3, 32] (fun s3 s32 wr => ∃ (a' : Option Addr) (m c' i : Nat) (L : List RR), s3 = .slice a' m c' ∧ s32 = .int .i64 i ∧ i ≤ B ∧ m ≤ 128 + 6 * i ∧ w.heap.size + 1 ≤ wr.heap.size ∧ Below w.heap.size w wr ∧ Hid (RL wr (w.heap.size + 1) a' m c' L (trSI n B sec n ++ faSI n B bud sec i)) ∧ Hid (Blk wr w.heap.size #[.int .i64 (B : Int), .slice a n c, .int .i64 (bud : Int), .bool sec] 79)) (fun _ s32 _ => B - (intOf s32).toNat)
      case atStart => exact ⟨_, m, _, 0, L, rfl, rfl, by omega, by omega, by omega, hbl, by show _; rw [show trSI n B sec n ++ faSI n B bud sec 0 = trSI n B sec n by simp [faSI]]; exact O, X⟩
      case round =>
        clear O X hbl
        obtain ⟨a', m, c', i, L, rfl, rfl, hi, hm, hsr, hbl, O, X⟩ := hrel
        have x0 := X.out.cell 0
        have x1 := X.out.cell 1
        have x2 := X.out.cell 2
        have x3 := X.out.cell 3
        have xl := X.out.lt
        simp at x0 x1 x2 x3
        by_cases hlt : i < B
        · have hlt' : (i : Int) < (B : Int) := by omega
          go_wp2_with fail
          clear x0 x1 x2 x3 xl
          obtain ⟨wp, rfl⟩ : ∃ wp : World, wp = wr := ⟨_, rfl⟩
          go_loopw [3, 7] (fun s3 s7 wr => ∃ (a' : Option Addr) (m c' j : Nat) (L : List RR), s3 = .slice a' m c' ∧ s7 = .int .i64 ((bud - j : Nat) : Int) ∧ j ≤ bud ∧ m ≤ 128 + 6 * i + 3 * j ∧ w.heap.size + 1 ≤ wr.heap.size ∧ Below w.heap.size w wr ∧ Hid (RL wr (w.heap.size + 1) a' m c' L (trSI n B sec n ++ faSI n B bud sec i ++ faSJ n B i bud sec j)) ∧ Hid (Blk wr w.heap.size #[.int .i64 (B : Int), .slice a n c, .int .i64 (bud : Int), .bool sec] 79)) (fun _ s7 _ => (intOf s7).toNat)
          case atStart => exact ⟨_, m, _, 0, L, rfl, rfl, by omega, by omega, by omega, hbl, by show _; rw [show trSI n B sec n ++ faSI n B bud sec i ++ faSJ n B i bud sec 0 = trSI n B sec n ++ faSI n B bud sec i by simp [faSJ]]; exact O, X⟩
          case round =>
            clear O X hbl
            obtain ⟨a', m, c', j, L, rfl, rfl, hj, hm2, hsr, hbl, O, X⟩ := hrel
            have x0 := X.out.cell 0
            have x1 := X.out.cell 1
            have x2 := X.out.cell 2
            have x3 := X.out.cell 3
            have xl := X.out.lt
            simp at x0 x1 x2 x3
            by_cases hjB : j < bud
            · obtain ⟨k, hk⟩ : ∃ k : Nat, k = bud - j := ⟨_, rfl⟩
              rw [← hk]
              have hk0 : (0 : Int) < (k : Int) := by omega
              have hkn : 0 < k := by omega
              have hk2 : k ≤ 2 := by omega
              have Hk := Lib.hid hk
              clear hk
              go_wp2_with fail
              clear x0 x1 x2 x3 xl
              refine Calls.mono (impl_faultRules (bud := bud) (HT.out.keep (by repeat (first | exact Below.refl _ _ | assumption | refine below_allocS ?_ _ | refine below_callS ?_ (by assumption) | (refine Below.alloc ?_ (by first | omega | (simp; done) | (simp; omega)) _) | (refine Below.setCell ?_ (by first | omega | (simp; done) | (simp; omega)) _) | refine Below.drew ?_ | refine below_drewN ?_ _ | (refine below_call ?_ (by assumption) (by first | omega | (simp; done) | (simp; omega))) | (refine Below.trans ?_ (by assumption))))) hB8 hn hlt hk2) ?_
              rintro e w1 ⟨a2, m2, c2, L2, rfl, ho2, hr2, hn2, hb1⟩
              have hs1 := hb1.size
              have hl2 := ho2.len
              have hl3 := hr2.len
              have hl4 := faS_len n B i k sec
              have hm0 : 0 < m2 := by omega
              have hm4 : m2 ≤ 3 := by omega
              have O2 := Lib.hid ho2.flats
              have R2 := Lib.hid hr2
              have N2 := Lib.hid hn2
              have HB1 := Lib.hid hb1
              clear hl2 hl3 hl4 ho2 hr2 hn2 hb1
              go_wp2_with (at_builtin; refine appAtS rfl _ _ _ _ rfl Tryd.underlying77 Tryd.infoRR rfl (by decide) (by decide) RR.one (w.heap.size + 1) _ _ _ _ (O.out.own.keep HB1.out) rfl _ _ _ _ rfl O2.out hm0 (by omega) (by omega) (by omega) ?_; intro g' c3 wn ho hb hg hat; have O := Lib.hid (RL.app O.out HB1.out (by omega) R2.out N2.out (faS_ok _ _ _ _ _) ho hg hat); have X := Lib.hid ((X.out.keep HB1.out).keepB hb (by omega)); have hbl := Below.trans (below_callS hbl HB1.out) (hb.mono (by omega)); have hsn := hb.size; clear ho hb hg hat)
              go_roundw
              case rel => exact ⟨_, m + m2, _, j + 1, L ++ L2, rfl, by have := Hk.out; congr 1; omega, by omega, by omega, by omega, hbl, by show _; rw [show faSJ n B i bud sec (j + 1) = faSJ n B i bud sec j ++ faS n B i k sec by rw [Hk.out]; exact flat_snoc _ _, ← List.append_assoc]; exact O, X⟩
              case measure => simp [intOf]; omega
            · obtain rfl : bud = j := by omega
              rw [Nat.sub_self]
              go_wp2_with fail
              go_roundw
              case rel => exact ⟨_, m, _, i + 1, L, rfl, by go_num, by omega, by omega, hsr, hbl, by show _; rw [show faSI n B bud sec (i + 1) = faSI n B bud sec i ++ faSJ n B i bud sec bud from flat_snoc _ _, ← List.append_assoc]; exact O, X⟩
              case measure => simp [intOf]; omega
        · obtain rfl : B = i := by omega
          have hlt' : ¬ (B : Int) < (B : Int) := by omega
          go_wp2_with fail
          go_ret
          exact ⟨_, m, _, L, rfl, O.out, by omega, hbl⟩
end Go.Proofs.YtfhogleillgcgaaDoor
