/- The rules of a train in a block, walked.; A store of a whole struct into a block that is known whole. -/
import Derived.Test.YtfnamjkmkoldeaaGreatDoorQj
import Derived.Test.YtfnamjkmkoldeaaGreatDoorFl
import Derived.Test.YtfnamjkmkoldeaaGreatDoorQc
import Derived.Deep.MidRow
import Derived.Deep.DrawnRows
namespace Go.Proofs.YtfnamjkmkoldeaaGreatDoor
open Go.RowKit
set_option linter.unusedVariables false
set_option linter.unusedSimpArgs false
/-- a rule of a ride as it is meant: name, tests, assignments, kind and numbers -/
structure RS where
  nm : ByteArray
  g : List I2b
  e : List I2
  x : I3
theorem I2b.one (y : I2b) : ∀ u ∈ y.enc, u.oneCell' = true := fun u hu => by
  simp only [I2b.enc, List.mem_cons, List.not_mem_nil, or_false] at hu
  rcases hu with rfl | rfl | rfl <;> rfl
def rnm (k i b : Nat) : ByteArray := ruleNameS ⟨(ruleNm.getD k []).toArray⟩ i b
def freeO (i b c : Nat) (o : Nat) : List I2b := if o = i then [] else [⟨o, 3 * (b : Int) + 2, false⟩, ⟨o, 3 * (c : Int), false⟩, ⟨o, 3 * (c : Int) + 1, false⟩, ⟨o, 3 * (c : Int) + 2, false⟩]
def freeL (n i b c j : Nat) : List I2b := [⟨i, 3 * (b : Int) + 1, true⟩, ⟨(n : Int) + c, 2, false⟩, ⟨(n : Int) + c, 3, false⟩] ++ (List.range j).flatMap (freeO i b c)
def trS (n B i b : Nat) (sec : Bool) : List RS :=
  [⟨rnm 0 i b, [⟨i, 3 * (b : Int), true⟩], [⟨i, 3 * (b : Int) + 1⟩], ⟨0, i, b⟩⟩, ⟨rnm 1 i b, freeL n i b ((b + 1) % B) n, [⟨i, 3 * (b : Int) + 2⟩], ⟨1, i, b⟩⟩] ++
  (if sec then [⟨rnm 2 i b, [⟨i, 3 * (b : Int) + 1, true⟩, ⟨(n : Int) + ((b + 1) % B : Nat), 3, true⟩], [⟨i, 3 * (b : Int) + 2⟩], ⟨2, i, b⟩⟩] else []) ++
  [⟨rnm 3 i b, [⟨i, 3 * (b : Int) + 2, true⟩], [⟨i, 3 * (((b + 1) % B : Nat) : Int)⟩], ⟨3, i, b⟩⟩]
theorem impl_newRR {k i b : Nat} {K : Int} {a1 a2 : Option Addr} {n1 n2 c1 c2 : Nat} {w : World} (hT : Tab w 0 (strsCells ruleNm)) (hK : K = (k : Int)) (hk : k < 7) (hi : i < 10) (hb : b < 10) :
    Calls Tryz.prog 149 #[.int .i64 K, .int .i64 (i : Int), .int .i64 (b : Int), .slice a1 n1 c1, .slice a2 n2 c2] w fun e w' => e = .returned (.agg #[.string (rnm k i b), .slice a1 n1 c1, .slice a2 n2 c2, .int .i64 K, .int .i64 (i : Int), .int .i64 (b : Int)]) ∧ Below w.heap.size w w' := by
  subst hK
  have h1 : ruleNm[k]? = some (ruleNm.getD k []) := by
    rw [List.getD_eq_getElem?_getD, List.getElem?_eq_getElem (show k < ruleNm.length from hk)]; rfl
  have h2 := hT.2 k _ (strs_at h1)
  refine impl_newRideRule h2 hT.1 ?_ hk hi hb
  have : k = 0 ∨ k = 1 ∨ k = 2 ∨ k = 3 ∨ k = 4 ∨ k = 5 ∨ k = 6 := by omega
  rcases this with rfl | rfl | rfl | rfl | rfl | rfl | rfl <;> decide
/-- a rule in memory is the rule that is meant; its slices are the call's own -/
def RD (w : World) (base : Nat) (r : RR) (s : RS) : Prop := r.nm = s.nm ∧ r.x = s.x ∧ OwnF 3 I2b.enc I2b.ok 142 w base r.ga r.gn r.gc s.g ∧ OwnF 2 I2.enc I2.ok 123 w base r.ea r.en r.ec s.e
theorem RD.keep {w w' : World} {base : Nat} {r : RR} {s : RS} (h : RD w base r s) (hb : Below w.heap.size w w') : RD w' base r s := ⟨h.1, h.2.1, h.2.2.1.keep hb, h.2.2.2.keep hb⟩
theorem RD.le {w : World} {base base' : Nat} {r : RR} {s : RS} (h : RD w base r s) (hb : base' ≤ base) : RD w base' r s := ⟨h.1, h.2.1, h.2.2.1.le hb, h.2.2.2.le hb⟩
def RDs (w : World) (base : Nat) : List RR → List RS → Prop
  | [], [] => True
  | r :: L, s :: S => RD w base r s ∧ RDs w base L S
  | _, _ => False
theorem RDs.keep {w w' : World} {base : Nat} (hb : Below w.heap.size w w') : ∀ {L : List RR} {S : List RS}, RDs w base L S → RDs w' base L S
  | [], [], _ => trivial
  | _ :: _, _ :: _, h => ⟨h.1.keep hb, RDs.keep hb h.2⟩
  | [], _ :: _, h => h.elim
  | _ :: _, [], h => h.elim
theorem RDs.le {w : World} {base base' : Nat} (hb : base' ≤ base) : ∀ {L : List RR} {S : List RS}, RDs w base L S → RDs w base' L S
  | [], [], _ => trivial
  | _ :: _, _ :: _, h => ⟨h.1.le hb, RDs.le hb h.2⟩
  | [], _ :: _, h => h.elim
  | _ :: _, [], h => h.elim
theorem RDs.append {w : World} {base : Nat} {L2 : List RR} {S2 : List RS} (h2 : RDs w base L2 S2) : ∀ {L : List RR} {S : List RS}, RDs w base L S → RDs w base (L ++ L2) (S ++ S2)
  | [], [], _ => h2
  | _ :: _, _ :: _, h => ⟨h.1, RDs.append h2 h.2⟩
  | [], _ :: _, h => h.elim
  | _ :: _, [], h => h.elim
theorem RDs.len {w : World} {base : Nat} : ∀ {L : List RR} {S : List RS}, RDs w base L S → L.length = S.length
  | [], [], _ => rfl
  | _ :: _, _ :: _, h => by rw [List.length_cons, List.length_cons, RDs.len h.2]
  | [], _ :: _, h => h.elim
  | _ :: _, [], h => h.elim
theorem RDs.xs {w : World} {base : Nat} : ∀ {L : List RR} {S : List RS}, RDs w base L S → L.map (·.x) = S.map (·.x)
  | [], [], _ => rfl
  | _ :: _, _ :: _, h => by rw [List.map_cons, List.map_cons, RDs.xs h.2, h.1.2.1]
  | [], _ :: _, h => h.elim
  | _ :: _, [], h => h.elim
/-- the blocks of a rule's slices -/
def RR.blks (r : RR) : List Nat := [(r.ga.map (·.block)).getD 0, (r.ea.map (·.block)).getD 0]
theorem OwnF.isSome {α : Type} {k : Nat} {enc : α → List Value} {ok : α → Prop} {E : TypeId} {w : World} {base : Nat} {a : Option Addr} {n c : Nat} {l : List α} (h : OwnF k enc ok E w base a n c l) (hn : 0 < n) : base ≤ (a.map (·.block)).getD 0 ∧ (a.map (·.block)).getD 0 < w.heap.size := by
  obtain ⟨g, rfl⟩ := h.shape hn
  exact h.blk g rfl
theorem Tryz.infoRR : (Tryz.prog.info? 117).map (fun i => (i.zero, i.size, i.bytes)) = some (some (.agg #[.string ⟨#[]⟩, .slice none 0 0, .slice none 0 0, .int .i64 0, .int .i64 0, .int .i64 0]), 6, 88) := by kernel_rfl
def TrRet (w : World) (S : List RS) (e : Ending) (w' : World) : Prop := ∃ a' n' c' L, e = .returned (.slice a' n' c') ∧ OwnF 6 RR.enc (fun _ => True) 117 w' w.heap.size a' n' c' L ∧ RDs w' w.heap.size L S ∧ (L.flatMap RR.blks).Nodup ∧ Below w.heap.size w w'
theorem free_ok {n i b c j : Nat} (h1 : n ≤ 100) (h2 : i ≤ 100) (h3 : b ≤ 100) (h4 : c ≤ 100) (h5 : j ≤ 100) : ∀ y ∈ freeO i b c j, y.ok := by
  intro y hy
  unfold freeO at hy
  split at hy
  · cases hy
  · simp only [List.mem_cons, List.not_mem_nil, or_false] at hy
    rcases hy with rfl | rfl | rfl | rfl <;> (unfold I2b.ok I64; simp; omega)
set_option maxRecDepth 100000 in
set_option maxHeartbeats 4000000 in
theorem impl_trainRules {B bud n c i b : Nat} {a : Option Addr} {sec : Bool} {w : World} (hT : Tab w 0 (strsCells ruleNm)) (hB : 2 ≤ B) (hB8 : B ≤ 8) (hn : n ≤ 4) (hi : i < n) (hb : b < B) :
    Calls Tryz.prog 124 #[.agg #[.int .i64 (B : Int), .slice a n c, .int .i64 (bud : Int), .bool sec], .int .i64 (i : Int), .int .i64 (b : Int)] w (TrRet w (trS n B i b sec)) := by
  have X := Lib.hid (Blk.made w #[.int .i64 (B : Int), .slice a n c, .int .i64 (bud : Int), .bool sec] 90)
  have HT := Lib.hid hT
  have HB : Below w.heap.size w (w.alloc (.cells #[.int .i64 (B : Int), .slice a n c, .int .i64 (bud : Int), .bool sec] 90)) := by repeat (first | exact Below.refl _ _ | assumption | refine below_allocS ?_ _ | refine below_callS ?_ (by assumption) | (refine Below.alloc ?_ (by first | omega | (simp; done) | (simp; omega)) _) | (refine Below.setCell ?_ (by first | omega | (simp; done) | (simp; omega)) _) | refine Below.drew ?_ | refine below_drewN ?_ _ | (refine below_call ?_ (by assumption) (by first | omega | (simp; done) | (simp; omega))) | (refine Below.trans ?_ (by assumption)))
  have e1 : IntKind.i64.wrap ((b : Int) + 1) = (b : Int) + 1 := IntWalk.i64_in _ (by omega)
  have hB0 : ¬ (B : Int) = 0 := by omega
  have hl := fun (wx : World) => (impl_length_i64 (a := a) (n := n) (c := c) (w := wx)).mono (fun e w' h => (⟨h.1, h.2.symm⟩ : e = .returned (.int .i64 n) ∧ w' = wx))
  obtain ⟨C, hC⟩ : ∃ C, (b + 1) % B = C := ⟨_, rfl⟩
  have hC8 : C < B := by rw [← hC]; exact Nat.mod_lt _ (by omega)
  have hCi : ((b : Int) + 1) % (B : Int) = (C : Int) := by rw [← hC]; simp
  have hS : trS n B i b sec = [⟨rnm 0 i b, [⟨i, 3 * (b : Int), true⟩], [⟨i, 3 * (b : Int) + 1⟩], ⟨0, i, b⟩⟩, ⟨rnm 1 i b, freeL n i b C n, [⟨i, 3 * (b : Int) + 2⟩], ⟨1, i, b⟩⟩] ++
  (if sec then [⟨rnm 2 i b, [⟨i, 3 * (b : Int) + 1, true⟩, ⟨(n : Int) + C, 3, true⟩], [⟨i, 3 * (b : Int) + 2⟩], ⟨2, i, b⟩⟩] else []) ++
  [⟨rnm 3 i b, [⟨i, 3 * (b : Int) + 2, true⟩], [⟨i, 3 * (C : Int)⟩], ⟨3, i, b⟩⟩] := by rw [trS, hC]
  generalize trS n B i b sec = S at *
  have HS := Lib.hid hS
  clear hS hC hT
  go_enter Tryz.func124, Tryz.ntmps124
  go_wp2_with fail
  go_quiet ((go_at_call 79; exact Calls.quiet_of_same (hl _)))
  simp only [hCi]
  clear e1 hl
  go_wp2_with fail
  refine Calls.mono (impl_is) ?_
  rintro e w1 ⟨rfl, hb_w1⟩
  have hs_w1 := hb_w1.size
  (try simp at hs_w1)
  replace X := Lib.hid (X.out.keep (show Below _ _ w1 by repeat (first | exact Below.refl _ _ | assumption | refine below_allocS ?_ _ | refine below_callS ?_ (by assumption) | (refine Below.alloc ?_ (by first | omega | (simp; done) | (simp; omega)) _) | (refine Below.setCell ?_ (by first | omega | (simp; done) | (simp; omega)) _) | refine Below.drew ?_ | refine below_drewN ?_ _ | (refine below_call ?_ (by assumption) (by first | omega | (simp; done) | (simp; omega))) | (refine Below.trans ?_ (by assumption)))))
  replace HB : Below w.heap.size w w1 := by repeat (first | exact Below.refl _ _ | assumption | refine below_allocS ?_ _ | refine below_callS ?_ (by assumption) | (refine Below.alloc ?_ (by first | omega | (simp; done) | (simp; omega)) _) | (refine Below.setCell ?_ (by first | omega | (simp; done) | (simp; omega)) _) | refine Below.drew ?_ | refine below_drewN ?_ _ | (refine below_call ?_ (by assumption) (by first | omega | (simp; done) | (simp; omega))) | (refine Below.trans ?_ (by assumption)))
  clear hCi hB0
  go_wp2_with fail
  refine Calls.mono (impl_isNot) ?_
  rintro e w2 ⟨rfl, hb_w2⟩
  have hs_w2 := hb_w2.size
  (try simp at hs_w2)
  replace X := Lib.hid (X.out.keep (show Below _ _ w2 by repeat (first | exact Below.refl _ _ | assumption | refine below_allocS ?_ _ | refine below_callS ?_ (by assumption) | (refine Below.alloc ?_ (by first | omega | (simp; done) | (simp; omega)) _) | (refine Below.setCell ?_ (by first | omega | (simp; done) | (simp; omega)) _) | refine Below.drew ?_ | refine below_drewN ?_ _ | (refine below_call ?_ (by assumption) (by first | omega | (simp; done) | (simp; omega))) | (refine Below.trans ?_ (by assumption)))))
  replace HB : Below w.heap.size w w2 := by repeat (first | exact Below.refl _ _ | assumption | refine below_allocS ?_ _ | refine below_callS ?_ (by assumption) | (refine Below.alloc ?_ (by first | omega | (simp; done) | (simp; omega)) _) | (refine Below.setCell ?_ (by first | omega | (simp; done) | (simp; omega)) _) | refine Below.drew ?_ | refine below_drewN ?_ _ | (refine below_call ?_ (by assumption) (by first | omega | (simp; done) | (simp; omega))) | (refine Below.trans ?_ (by assumption)))
  go_wp2_with fail
  refine Calls.mono (impl_isNot) ?_
  rintro e w3 ⟨rfl, hb_w3⟩
  have hs_w3 := hb_w3.size
  (try simp at hs_w3)
  replace X := Lib.hid (X.out.keep (show Below _ _ w3 by repeat (first | exact Below.refl _ _ | assumption | refine below_allocS ?_ _ | refine below_callS ?_ (by assumption) | (refine Below.alloc ?_ (by first | omega | (simp; done) | (simp; omega)) _) | (refine Below.setCell ?_ (by first | omega | (simp; done) | (simp; omega)) _) | refine Below.drew ?_ | refine below_drewN ?_ _ | (refine below_call ?_ (by assumption) (by first | omega | (simp; done) | (simp; omega))) | (refine Below.trans ?_ (by assumption)))))
  replace HB : Below w.heap.size w w3 := by repeat (first | exact Below.refl _ _ | assumption | refine below_allocS ?_ _ | refine below_callS ?_ (by assumption) | (refine Below.alloc ?_ (by first | omega | (simp; done) | (simp; omega)) _) | (refine Below.setCell ?_ (by first | omega | (simp; done) | (simp; omega)) _) | refine Below.drew ?_ | refine below_drewN ?_ _ | (refine below_call ?_ (by assumption) (by first | omega | (simp; done) | (simp; omega))) | (refine Below.trans ?_ (by assumption)))
  go_wp2_with fail
  have O := Lib.hid (OwnF.lit (m := 3) (E := 142) (k := 3) (enc := I2b.enc) (ok := I2b.ok) (base := w.heap.size + 1) (cs := #[.int .i64 (i : Int), .int .i64 (3 * (b : Int) + 1), .bool true, .int .i64 ((n : Int) + (C : Int)), .int .i64 2, .bool false, .int .i64 ((n : Int) + (C : Int)), .int .i64 3, .bool false]) w3 (freeL n i b C 0) (by omega) rfl (by decide) (fun _ => rfl) (by intro y hy; simp [freeL] at hy; rcases hy with rfl | rfl | rfl <;> (unfold I2b.ok I64; simp; omega)) rfl)
  clear hb_w1 hb_w2 hb_w3
  go_loopw [9, 37] (fun s9 s37 wr => ∃ (a' : Option Addr) (m c' j : Nat), s9 = .slice a' m c' ∧ s37 = .int .i64 j ∧ j ≤ n ∧ m ≤ 3 + 4 * j ∧ 0 < m ∧ w.heap.size + 1 ≤ wr.heap.size ∧ Below w.heap.size w wr ∧ Hid (OwnF 3 I2b.enc I2b.ok 142 wr (w.heap.size + 1) a' m c' (freeL n i b C j)) ∧ Hid (Blk wr w.heap.size #[.int .i64 (B : Int), .slice a n c, .int .i64 (bud : Int), .bool sec] 90)) (fun _ s37 _ => n - (intOf s37).toNat)
  case atStart => exact ⟨_, 3, 3, 0, rfl, rfl, by omega, by omega, by omega, by (try simp); omega, by repeat (first | exact Below.refl _ _ | assumption | refine below_allocS ?_ _ | refine below_callS ?_ (by assumption) | (refine Below.alloc ?_ (by first | omega | (simp; done) | (simp; omega)) _) | (refine Below.setCell ?_ (by first | omega | (simp; done) | (simp; omega)) _) | refine Below.drew ?_ | refine below_drewN ?_ _ | (refine below_call ?_ (by assumption) (by first | omega | (simp; done) | (simp; omega))) | (refine Below.trans ?_ (by assumption))), O, Lib.hid (X.out.keep (by repeat (first | exact Below.refl _ _ | assumption | refine below_allocS ?_ _ | refine below_callS ?_ (by assumption) | (refine Below.alloc ?_ (by first | omega | (simp; done) | (simp; omega)) _) | (refine Below.setCell ?_ (by first | omega | (simp; done) | (simp; omega)) _) | refine Below.drew ?_ | refine below_drewN ?_ _ | (refine below_call ?_ (by assumption) (by first | omega | (simp; done) | (simp; omega))) | (refine Below.trans ?_ (by assumption)))))⟩
  case round =>
  clear O X HB hs_w1 hs_w2 hs_w3
  obtain ⟨a', m, c', j, rfl, rfl, hj, hm, hm0, hsr, HB, O, X⟩ := hrel
  by_cases hlt : j < n
  · have hlt' : (j : Int) < (n : Int) := by omega
    by_cases hji : j = i
    · subst hji
      go_wp2_with fail
      go_roundw
      case rel => exact ⟨_, m, _, j + 1, rfl, by go_num, by omega, by omega, hm0, hsr, HB, by show _; rw [show freeL n j b C (j + 1) = freeL n j b C j by rw [freeL, flat_snoc, ← List.append_assoc, ← freeL]; simp [freeO]]; exact O, X⟩
      case measure => simp [intOf]; omega
    · have hji' : ((j : Int) != (i : Int)) = true := by rw [bne_iff_ne]; omega
      have HJ := Lib.hid hji
      clear hji
      go_wp2_with fail
      refine Calls.mono (impl_isNot) ?_
      rintro e w1 ⟨rfl, hb_w1⟩
      have hs_w1 := hb_w1.size
      (try simp at hs_w1)
      replace X := Lib.hid (X.out.keep (show Below _ _ w1 by repeat (first | exact Below.refl _ _ | assumption | refine below_allocS ?_ _ | refine below_callS ?_ (by assumption) | (refine Below.alloc ?_ (by first | omega | (simp; done) | (simp; omega)) _) | (refine Below.setCell ?_ (by first | omega | (simp; done) | (simp; omega)) _) | refine Below.drew ?_ | refine below_drewN ?_ _ | (refine below_call ?_ (by assumption) (by first | omega | (simp; done) | (simp; omega))) | (refine Below.trans ?_ (by assumption)))))
      replace O := Lib.hid (O.out.keep (show Below _ _ w1 by repeat (first | exact Below.refl _ _ | assumption | refine below_allocS ?_ _ | refine below_callS ?_ (by assumption) | (refine Below.alloc ?_ (by first | omega | (simp; done) | (simp; omega)) _) | (refine Below.setCell ?_ (by first | omega | (simp; done) | (simp; omega)) _) | refine Below.drew ?_ | refine below_drewN ?_ _ | (refine below_call ?_ (by assumption) (by first | omega | (simp; done) | (simp; omega))) | (refine Below.trans ?_ (by assumption)))))
      replace HB : Below w.heap.size w w1 := by repeat (first | exact Below.refl _ _ | assumption | refine below_allocS ?_ _ | refine below_callS ?_ (by assumption) | (refine Below.alloc ?_ (by first | omega | (simp; done) | (simp; omega)) _) | (refine Below.setCell ?_ (by first | omega | (simp; done) | (simp; omega)) _) | refine Below.drew ?_ | refine below_drewN ?_ _ | (refine below_call ?_ (by assumption) (by first | omega | (simp; done) | (simp; omega))) | (refine Below.trans ?_ (by assumption)))
      go_wp2_with fail
      refine Calls.mono (impl_isNot) ?_
      rintro e w2 ⟨rfl, hb_w2⟩
      have hs_w2 := hb_w2.size
      (try simp at hs_w2)
      replace X := Lib.hid (X.out.keep (show Below _ _ w2 by repeat (first | exact Below.refl _ _ | assumption | refine below_allocS ?_ _ | refine below_callS ?_ (by assumption) | (refine Below.alloc ?_ (by first | omega | (simp; done) | (simp; omega)) _) | (refine Below.setCell ?_ (by first | omega | (simp; done) | (simp; omega)) _) | refine Below.drew ?_ | refine below_drewN ?_ _ | (refine below_call ?_ (by assumption) (by first | omega | (simp; done) | (simp; omega))) | (refine Below.trans ?_ (by assumption)))))
      replace O := Lib.hid (O.out.keep (show Below _ _ w2 by repeat (first | exact Below.refl _ _ | assumption | refine below_allocS ?_ _ | refine below_callS ?_ (by assumption) | (refine Below.alloc ?_ (by first | omega | (simp; done) | (simp; omega)) _) | (refine Below.setCell ?_ (by first | omega | (simp; done) | (simp; omega)) _) | refine Below.drew ?_ | refine below_drewN ?_ _ | (refine below_call ?_ (by assumption) (by first | omega | (simp; done) | (simp; omega))) | (refine Below.trans ?_ (by assumption)))))
      replace HB : Below w.heap.size w w2 := by repeat (first | exact Below.refl _ _ | assumption | refine below_allocS ?_ _ | refine below_callS ?_ (by assumption) | (refine Below.alloc ?_ (by first | omega | (simp; done) | (simp; omega)) _) | (refine Below.setCell ?_ (by first | omega | (simp; done) | (simp; omega)) _) | refine Below.drew ?_ | refine below_drewN ?_ _ | (refine below_call ?_ (by assumption) (by first | omega | (simp; done) | (simp; omega))) | (refine Below.trans ?_ (by assumption)))
      go_wp2_with fail
      refine Calls.mono (impl_isNot) ?_
      rintro e w3 ⟨rfl, hb_w3⟩
      have hs_w3 := hb_w3.size
      (try simp at hs_w3)
      replace X := Lib.hid (X.out.keep (show Below _ _ w3 by repeat (first | exact Below.refl _ _ | assumption | refine below_allocS ?_ _ | refine below_callS ?_ (by assumption) | (refine Below.alloc ?_ (by first | omega | (simp; done) | (simp; omega)) _) | (refine Below.setCell ?_ (by first | omega | (simp; done) | (simp; omega)) _) | refine Below.drew ?_ | refine below_drewN ?_ _ | (refine below_call ?_ (by assumption) (by first | omega | (simp; done) | (simp; omega))) | (refine Below.trans ?_ (by assumption)))))
      replace O := Lib.hid (O.out.keep (show Below _ _ w3 by repeat (first | exact Below.refl _ _ | assumption | refine below_allocS ?_ _ | refine below_callS ?_ (by assumption) | (refine Below.alloc ?_ (by first | omega | (simp; done) | (simp; omega)) _) | (refine Below.setCell ?_ (by first | omega | (simp; done) | (simp; omega)) _) | refine Below.drew ?_ | refine below_drewN ?_ _ | (refine below_call ?_ (by assumption) (by first | omega | (simp; done) | (simp; omega))) | (refine Below.trans ?_ (by assumption)))))
      replace HB : Below w.heap.size w w3 := by repeat (first | exact Below.refl _ _ | assumption | refine below_allocS ?_ _ | refine below_callS ?_ (by assumption) | (refine Below.alloc ?_ (by first | omega | (simp; done) | (simp; omega)) _) | (refine Below.setCell ?_ (by first | omega | (simp; done) | (simp; omega)) _) | refine Below.drew ?_ | refine below_drewN ?_ _ | (refine below_call ?_ (by assumption) (by first | omega | (simp; done) | (simp; omega))) | (refine Below.trans ?_ (by assumption)))
      go_wp2_with fail
      refine Calls.mono (impl_isNot) ?_
      rintro e w4 ⟨rfl, hb_w4⟩
      have hs_w4 := hb_w4.size
      (try simp at hs_w4)
      replace X := Lib.hid (X.out.keep (show Below _ _ w4 by repeat (first | exact Below.refl _ _ | assumption | refine below_allocS ?_ _ | refine below_callS ?_ (by assumption) | (refine Below.alloc ?_ (by first | omega | (simp; done) | (simp; omega)) _) | (refine Below.setCell ?_ (by first | omega | (simp; done) | (simp; omega)) _) | refine Below.drew ?_ | refine below_drewN ?_ _ | (refine below_call ?_ (by assumption) (by first | omega | (simp; done) | (simp; omega))) | (refine Below.trans ?_ (by assumption)))))
      replace O := Lib.hid (O.out.keep (show Below _ _ w4 by repeat (first | exact Below.refl _ _ | assumption | refine below_allocS ?_ _ | refine below_callS ?_ (by assumption) | (refine Below.alloc ?_ (by first | omega | (simp; done) | (simp; omega)) _) | (refine Below.setCell ?_ (by first | omega | (simp; done) | (simp; omega)) _) | refine Below.drew ?_ | refine below_drewN ?_ _ | (refine below_call ?_ (by assumption) (by first | omega | (simp; done) | (simp; omega))) | (refine Below.trans ?_ (by assumption)))))
      replace HB : Below w.heap.size w w4 := by repeat (first | exact Below.refl _ _ | assumption | refine below_allocS ?_ _ | refine below_callS ?_ (by assumption) | (refine Below.alloc ?_ (by first | omega | (simp; done) | (simp; omega)) _) | (refine Below.setCell ?_ (by first | omega | (simp; done) | (simp; omega)) _) | refine Below.drew ?_ | refine below_drewN ?_ _ | (refine below_call ?_ (by assumption) (by first | omega | (simp; done) | (simp; omega))) | (refine Below.trans ?_ (by assumption)))
      go_wp2_with (at_builtin; refine appAtL rfl _ _ rfl Tryz.underlying95 Tryz.infoTest rfl (by decide) (by decide) I2b.one (w.heap.size + 1) _ _ _ _ (freeO i b C j) O.out rfl _ rfl (by first | rfl | (simp; done)) (by unfold freeO; rw [if_neg HJ.out]; rfl) (by unfold freeO; rw [if_neg HJ.out]; rfl) (free_ok (n := n) (by omega) (by omega) (by omega) (by omega) (by omega)) (by decide) (by omega) (by decide) (by omega) ?_; intro a2 c2 wn ho hb hg hat hsn; have O := Lib.hid ho; have X := Lib.hid (X.out.keepB hb (by omega)); have HB := Below.trans HB (hb.mono (by omega)); clear ho hb hg hat)
      go_roundw
      case rel => exact ⟨_, m + 4, _, j + 1, rfl, by go_num, by omega, by omega, by omega, by (try simp at hsn); omega, HB, by show _; rw [show freeL n i b C (j + 1) = freeL n i b C j ++ freeO i b C j by rw [freeL, flat_snoc, ← List.append_assoc, ← freeL]]; exact O, X⟩
      case measure => simp [intOf]; omega
  · obtain rfl : n = j := by omega
    have hlt' : ¬ (n : Int) < (n : Int) := by omega
    obtain ⟨gF, rfl⟩ := O.out.shape hm0
    have hgF := O.out.blk gF rfl
    go_wp2_with fail
    refine Calls.mono (impl_is) ?_
    rintro e x1 ⟨rfl, hb_x1⟩
    have hs_x1 := hb_x1.size
    (try simp at hs_x1)
    replace X := Lib.hid (X.out.keep (show Below _ _ x1 by repeat (first | exact Below.refl _ _ | assumption | refine below_allocS ?_ _ | refine below_callS ?_ (by assumption) | (refine Below.alloc ?_ (by first | omega | (simp; done) | (simp; omega)) _) | (refine Below.setCell ?_ (by first | omega | (simp; done) | (simp; omega)) _) | refine Below.drew ?_ | refine below_drewN ?_ _ | (refine below_call ?_ (by assumption) (by first | omega | (simp; done) | (simp; omega))) | (refine Below.trans ?_ (by assumption)))))
    replace O := Lib.hid (O.out.keep (show Below _ _ x1 by repeat (first | exact Below.refl _ _ | assumption | refine below_allocS ?_ _ | refine below_callS ?_ (by assumption) | (refine Below.alloc ?_ (by first | omega | (simp; done) | (simp; omega)) _) | (refine Below.setCell ?_ (by first | omega | (simp; done) | (simp; omega)) _) | refine Below.drew ?_ | refine below_drewN ?_ _ | (refine below_call ?_ (by assumption) (by first | omega | (simp; done) | (simp; omega))) | (refine Below.trans ?_ (by assumption)))))
    replace HB : Below w.heap.size w x1 := by repeat (first | exact Below.refl _ _ | assumption | refine below_allocS ?_ _ | refine below_callS ?_ (by assumption) | (refine Below.alloc ?_ (by first | omega | (simp; done) | (simp; omega)) _) | (refine Below.setCell ?_ (by first | omega | (simp; done) | (simp; omega)) _) | refine Below.drew ?_ | refine below_drewN ?_ _ | (refine below_call ?_ (by assumption) (by first | omega | (simp; done) | (simp; omega))) | (refine Below.trans ?_ (by assumption)))
    clear hb_x1
    go_wp2_with fail
    refine Calls.mono (impl_newRR (k := 0) (HT.out.keep (by repeat (first | exact Below.refl _ _ | assumption | refine below_allocS ?_ _ | refine below_callS ?_ (by assumption) | (refine Below.alloc ?_ (by first | omega | (simp; done) | (simp; omega)) _) | (refine Below.setCell ?_ (by first | omega | (simp; done) | (simp; omega)) _) | refine Below.drew ?_ | refine below_drewN ?_ _ | (refine below_call ?_ (by assumption) (by first | omega | (simp; done) | (simp; omega))) | (refine Below.trans ?_ (by assumption))))) rfl (by decide) (by omega) (by omega)) ?_
    rintro e x2 ⟨rfl, hb_x2⟩
    have hs_x2 := hb_x2.size
    (try simp at hs_x2)
    replace X := Lib.hid (X.out.keep (show Below _ _ x2 by repeat (first | exact Below.refl _ _ | assumption | refine below_allocS ?_ _ | refine below_callS ?_ (by assumption) | (refine Below.alloc ?_ (by first | omega | (simp; done) | (simp; omega)) _) | (refine Below.setCell ?_ (by first | omega | (simp; done) | (simp; omega)) _) | refine Below.drew ?_ | refine below_drewN ?_ _ | (refine below_call ?_ (by assumption) (by first | omega | (simp; done) | (simp; omega))) | (refine Below.trans ?_ (by assumption)))))
    replace O := Lib.hid (O.out.keep (show Below _ _ x2 by repeat (first | exact Below.refl _ _ | assumption | refine below_allocS ?_ _ | refine below_callS ?_ (by assumption) | (refine Below.alloc ?_ (by first | omega | (simp; done) | (simp; omega)) _) | (refine Below.setCell ?_ (by first | omega | (simp; done) | (simp; omega)) _) | refine Below.drew ?_ | refine below_drewN ?_ _ | (refine below_call ?_ (by assumption) (by first | omega | (simp; done) | (simp; omega))) | (refine Below.trans ?_ (by assumption)))))
    replace HB : Below w.heap.size w x2 := by repeat (first | exact Below.refl _ _ | assumption | refine below_allocS ?_ _ | refine below_callS ?_ (by assumption) | (refine Below.alloc ?_ (by first | omega | (simp; done) | (simp; omega)) _) | (refine Below.setCell ?_ (by first | omega | (simp; done) | (simp; omega)) _) | refine Below.drew ?_ | refine below_drewN ?_ _ | (refine below_call ?_ (by assumption) (by first | omega | (simp; done) | (simp; omega))) | (refine Below.trans ?_ (by assumption)))
    have G1 := Lib.hid (OwnF.litB2 (E := 142) (k := 3) (enc := I2b.enc) (ok := I2b.ok) (base := w.heap.size) [⟨i, 3 * (b : Int), true⟩] hb_x2 rfl (by (try simp); omega) rfl (by simp) (fun _ => rfl) (by intro y hy; simp at hy; subst hy; (unfold I2b.ok I64; simp; omega)) rfl)
    have E1 := Lib.hid (OwnF.litB (E := 123) (k := 2) (enc := I2.enc) (ok := I2.ok) (base := w.heap.size) [⟨i, 3 * (b : Int) + 1⟩] hb_x2 (g := x1.heap.size + 1) (by simp) (by (try simp); omega) rfl (by simp) (fun _ => rfl) (by intro y hy; simp at hy; subst hy; (unfold I2.ok I64; simp; omega)) rfl)
    clear hb_x2
    go_wp2_with fail
    refine Calls.mono (impl_newRR (k := 1) (HT.out.keep (by repeat (first | exact Below.refl _ _ | assumption | refine below_allocS ?_ _ | refine below_callS ?_ (by assumption) | (refine Below.alloc ?_ (by first | omega | (simp; done) | (simp; omega)) _) | (refine Below.setCell ?_ (by first | omega | (simp; done) | (simp; omega)) _) | refine Below.drew ?_ | refine below_drewN ?_ _ | (refine below_call ?_ (by assumption) (by first | omega | (simp; done) | (simp; omega))) | (refine Below.trans ?_ (by assumption))))) rfl (by decide) (by omega) (by omega)) ?_
    rintro e x3 ⟨rfl, hb_x3⟩
    have hs_x3 := hb_x3.size
    (try simp at hs_x3)
    replace X := Lib.hid (X.out.keep (show Below _ _ x3 by repeat (first | exact Below.refl _ _ | assumption | refine below_allocS ?_ _ | refine below_callS ?_ (by assumption) | (refine Below.alloc ?_ (by first | omega | (simp; done) | (simp; omega)) _) | (refine Below.setCell ?_ (by first | omega | (simp; done) | (simp; omega)) _) | refine Below.drew ?_ | refine below_drewN ?_ _ | (refine below_call ?_ (by assumption) (by first | omega | (simp; done) | (simp; omega))) | (refine Below.trans ?_ (by assumption)))))
    replace O := Lib.hid (O.out.keep (show Below _ _ x3 by repeat (first | exact Below.refl _ _ | assumption | refine below_allocS ?_ _ | refine below_callS ?_ (by assumption) | (refine Below.alloc ?_ (by first | omega | (simp; done) | (simp; omega)) _) | (refine Below.setCell ?_ (by first | omega | (simp; done) | (simp; omega)) _) | refine Below.drew ?_ | refine below_drewN ?_ _ | (refine below_call ?_ (by assumption) (by first | omega | (simp; done) | (simp; omega))) | (refine Below.trans ?_ (by assumption)))))
    replace G1 := Lib.hid (G1.out.keep (show Below _ _ x3 by repeat (first | exact Below.refl _ _ | assumption | refine below_allocS ?_ _ | refine below_callS ?_ (by assumption) | (refine Below.alloc ?_ (by first | omega | (simp; done) | (simp; omega)) _) | (refine Below.setCell ?_ (by first | omega | (simp; done) | (simp; omega)) _) | refine Below.drew ?_ | refine below_drewN ?_ _ | (refine below_call ?_ (by assumption) (by first | omega | (simp; done) | (simp; omega))) | (refine Below.trans ?_ (by assumption)))))
    replace E1 := Lib.hid (E1.out.keep (show Below _ _ x3 by repeat (first | exact Below.refl _ _ | assumption | refine below_allocS ?_ _ | refine below_callS ?_ (by assumption) | (refine Below.alloc ?_ (by first | omega | (simp; done) | (simp; omega)) _) | (refine Below.setCell ?_ (by first | omega | (simp; done) | (simp; omega)) _) | refine Below.drew ?_ | refine below_drewN ?_ _ | (refine below_call ?_ (by assumption) (by first | omega | (simp; done) | (simp; omega))) | (refine Below.trans ?_ (by assumption)))))
    replace HB : Below w.heap.size w x3 := by repeat (first | exact Below.refl _ _ | assumption | refine below_allocS ?_ _ | refine below_callS ?_ (by assumption) | (refine Below.alloc ?_ (by first | omega | (simp; done) | (simp; omega)) _) | (refine Below.setCell ?_ (by first | omega | (simp; done) | (simp; omega)) _) | refine Below.drew ?_ | refine below_drewN ?_ _ | (refine below_call ?_ (by assumption) (by first | omega | (simp; done) | (simp; omega))) | (refine Below.trans ?_ (by assumption)))
    have E2 := Lib.hid (OwnF.litB (E := 123) (k := 2) (enc := I2.enc) (ok := I2.ok) (base := w.heap.size) [⟨i, 3 * (b : Int) + 2⟩] hb_x3 rfl (by (try simp); omega) rfl (by simp) (fun _ => rfl) (by intro y hy; simp at hy; subst hy; (unfold I2.ok I64; simp; omega)) rfl)
    clear hb_x3
    have x0 := X.out.cell 0
    have x3c := X.out.cell 3
    have xl := X.out.lt
    simp at x0 x3c
    obtain ⟨r0, hr0⟩ : ∃ r : RR, r = ⟨rnm 0 i b, some ⟨x1.heap.size, 0, none⟩, 1, 1, some ⟨x1.heap.size + 1, 0, none⟩, 1, 1, ⟨0, i, b⟩⟩ := ⟨_, rfl⟩
    obtain ⟨r1, hr1⟩ : ∃ r : RR, r = ⟨rnm 1 i b, some ⟨gF, 0, none⟩, m, c', some ⟨x2.heap.size, 0, none⟩, 1, 1, ⟨1, i, b⟩⟩ := ⟨_, rfl⟩
    have LL := Lib.hid (OwnF.lit (m := 2) (E := 117) (k := 6) (enc := RR.enc) (ok := fun _ => True) (base := w.heap.size) (cs := #[.string (rnm 0 i b), .slice (some ⟨x1.heap.size, 0, none⟩) 1 1, .slice (some ⟨x1.heap.size + 1, 0, none⟩) 1 1, .int .i64 0, .int .i64 (i : Int), .int .i64 (b : Int), .string (rnm 1 i b), .slice (some ⟨gF, 0, none⟩) m c', .slice (some ⟨x2.heap.size, 0, none⟩) 1 1, .int .i64 1, .int .i64 (i : Int), .int .i64 (b : Int)]) x3 [r0, r1] (by omega) rfl (by decide) (fun _ => rfl) (fun _ _ => trivial) (by rw [hr0, hr1]; rfl))
    have H0 := Lib.hid hr0
    have H1 := Lib.hid hr1
    clear hr0 hr1
    cases sec
    · go_wp2_with fail
      refine Calls.mono (impl_is) ?_
      rintro e z1 ⟨rfl, hb_z1⟩
      have hs_z1 := hb_z1.size
      (try simp at hs_z1)
      replace LL := Lib.hid (LL.out.keep (show Below _ _ z1 by repeat (first | exact Below.refl _ _ | assumption | refine below_allocS ?_ _ | refine below_callS ?_ (by assumption) | (refine Below.alloc ?_ (by first | omega | (simp; done) | (simp; omega)) _) | (refine Below.setCell ?_ (by first | omega | (simp; done) | (simp; omega)) _) | refine Below.drew ?_ | refine below_drewN ?_ _ | (refine below_call ?_ (by assumption) (by first | omega | (simp; done) | (simp; omega))) | (refine Below.trans ?_ (by assumption)))))
      replace O := Lib.hid (O.out.keep (show Below _ _ z1 by repeat (first | exact Below.refl _ _ | assumption | refine below_allocS ?_ _ | refine below_callS ?_ (by assumption) | (refine Below.alloc ?_ (by first | omega | (simp; done) | (simp; omega)) _) | (refine Below.setCell ?_ (by first | omega | (simp; done) | (simp; omega)) _) | refine Below.drew ?_ | refine below_drewN ?_ _ | (refine below_call ?_ (by assumption) (by first | omega | (simp; done) | (simp; omega))) | (refine Below.trans ?_ (by assumption)))))
      replace G1 := Lib.hid (G1.out.keep (show Below _ _ z1 by repeat (first | exact Below.refl _ _ | assumption | refine below_allocS ?_ _ | refine below_callS ?_ (by assumption) | (refine Below.alloc ?_ (by first | omega | (simp; done) | (simp; omega)) _) | (refine Below.setCell ?_ (by first | omega | (simp; done) | (simp; omega)) _) | refine Below.drew ?_ | refine below_drewN ?_ _ | (refine below_call ?_ (by assumption) (by first | omega | (simp; done) | (simp; omega))) | (refine Below.trans ?_ (by assumption)))))
      replace E1 := Lib.hid (E1.out.keep (show Below _ _ z1 by repeat (first | exact Below.refl _ _ | assumption | refine below_allocS ?_ _ | refine below_callS ?_ (by assumption) | (refine Below.alloc ?_ (by first | omega | (simp; done) | (simp; omega)) _) | (refine Below.setCell ?_ (by first | omega | (simp; done) | (simp; omega)) _) | refine Below.drew ?_ | refine below_drewN ?_ _ | (refine below_call ?_ (by assumption) (by first | omega | (simp; done) | (simp; omega))) | (refine Below.trans ?_ (by assumption)))))
      replace E2 := Lib.hid (E2.out.keep (show Below _ _ z1 by repeat (first | exact Below.refl _ _ | assumption | refine below_allocS ?_ _ | refine below_callS ?_ (by assumption) | (refine Below.alloc ?_ (by first | omega | (simp; done) | (simp; omega)) _) | (refine Below.setCell ?_ (by first | omega | (simp; done) | (simp; omega)) _) | refine Below.drew ?_ | refine below_drewN ?_ _ | (refine below_call ?_ (by assumption) (by first | omega | (simp; done) | (simp; omega))) | (refine Below.trans ?_ (by assumption)))))
      replace HB : Below w.heap.size w z1 := by repeat (first | exact Below.refl _ _ | assumption | refine below_allocS ?_ _ | refine below_callS ?_ (by assumption) | (refine Below.alloc ?_ (by first | omega | (simp; done) | (simp; omega)) _) | (refine Below.setCell ?_ (by first | omega | (simp; done) | (simp; omega)) _) | refine Below.drew ?_ | refine below_drewN ?_ _ | (refine below_call ?_ (by assumption) (by first | omega | (simp; done) | (simp; omega))) | (refine Below.trans ?_ (by assumption)))
      clear hb_z1
      go_wp2_with fail
      refine Calls.mono (impl_newRR (k := 3) (HT.out.keep (by repeat (first | exact Below.refl _ _ | assumption | refine below_allocS ?_ _ | refine below_callS ?_ (by assumption) | (refine Below.alloc ?_ (by first | omega | (simp; done) | (simp; omega)) _) | (refine Below.setCell ?_ (by first | omega | (simp; done) | (simp; omega)) _) | refine Below.drew ?_ | refine below_drewN ?_ _ | (refine below_call ?_ (by assumption) (by first | omega | (simp; done) | (simp; omega))) | (refine Below.trans ?_ (by assumption))))) rfl (by decide) (by omega) (by omega)) ?_
      rintro e z2 ⟨rfl, hb_z2⟩
      have hs_z2 := hb_z2.size
      (try simp at hs_z2)
      replace LL := Lib.hid (LL.out.keep (show Below _ _ z2 by repeat (first | exact Below.refl _ _ | assumption | refine below_allocS ?_ _ | refine below_callS ?_ (by assumption) | (refine Below.alloc ?_ (by first | omega | (simp; done) | (simp; omega)) _) | (refine Below.setCell ?_ (by first | omega | (simp; done) | (simp; omega)) _) | refine Below.drew ?_ | refine below_drewN ?_ _ | (refine below_call ?_ (by assumption) (by first | omega | (simp; done) | (simp; omega))) | (refine Below.trans ?_ (by assumption)))))
      replace O := Lib.hid (O.out.keep (show Below _ _ z2 by repeat (first | exact Below.refl _ _ | assumption | refine below_allocS ?_ _ | refine below_callS ?_ (by assumption) | (refine Below.alloc ?_ (by first | omega | (simp; done) | (simp; omega)) _) | (refine Below.setCell ?_ (by first | omega | (simp; done) | (simp; omega)) _) | refine Below.drew ?_ | refine below_drewN ?_ _ | (refine below_call ?_ (by assumption) (by first | omega | (simp; done) | (simp; omega))) | (refine Below.trans ?_ (by assumption)))))
      replace G1 := Lib.hid (G1.out.keep (show Below _ _ z2 by repeat (first | exact Below.refl _ _ | assumption | refine below_allocS ?_ _ | refine below_callS ?_ (by assumption) | (refine Below.alloc ?_ (by first | omega | (simp; done) | (simp; omega)) _) | (refine Below.setCell ?_ (by first | omega | (simp; done) | (simp; omega)) _) | refine Below.drew ?_ | refine below_drewN ?_ _ | (refine below_call ?_ (by assumption) (by first | omega | (simp; done) | (simp; omega))) | (refine Below.trans ?_ (by assumption)))))
      replace E1 := Lib.hid (E1.out.keep (show Below _ _ z2 by repeat (first | exact Below.refl _ _ | assumption | refine below_allocS ?_ _ | refine below_callS ?_ (by assumption) | (refine Below.alloc ?_ (by first | omega | (simp; done) | (simp; omega)) _) | (refine Below.setCell ?_ (by first | omega | (simp; done) | (simp; omega)) _) | refine Below.drew ?_ | refine below_drewN ?_ _ | (refine below_call ?_ (by assumption) (by first | omega | (simp; done) | (simp; omega))) | (refine Below.trans ?_ (by assumption)))))
      replace E2 := Lib.hid (E2.out.keep (show Below _ _ z2 by repeat (first | exact Below.refl _ _ | assumption | refine below_allocS ?_ _ | refine below_callS ?_ (by assumption) | (refine Below.alloc ?_ (by first | omega | (simp; done) | (simp; omega)) _) | (refine Below.setCell ?_ (by first | omega | (simp; done) | (simp; omega)) _) | refine Below.drew ?_ | refine below_drewN ?_ _ | (refine below_call ?_ (by assumption) (by first | omega | (simp; done) | (simp; omega))) | (refine Below.trans ?_ (by assumption)))))
      replace HB : Below w.heap.size w z2 := by repeat (first | exact Below.refl _ _ | assumption | refine below_allocS ?_ _ | refine below_callS ?_ (by assumption) | (refine Below.alloc ?_ (by first | omega | (simp; done) | (simp; omega)) _) | (refine Below.setCell ?_ (by first | omega | (simp; done) | (simp; omega)) _) | refine Below.drew ?_ | refine below_drewN ?_ _ | (refine below_call ?_ (by assumption) (by first | omega | (simp; done) | (simp; omega))) | (refine Below.trans ?_ (by assumption)))
      have G4 := Lib.hid (OwnF.litB2 (E := 142) (k := 3) (enc := I2b.enc) (ok := I2b.ok) (base := w.heap.size) [⟨i, 3 * (b : Int) + 2, true⟩] hb_z2 rfl (by (try simp); omega) rfl (by simp) (fun _ => rfl) (by intro y hy; simp at hy; subst hy; (unfold I2b.ok I64; simp; omega)) rfl)
      have E4 := Lib.hid (OwnF.litB (E := 123) (k := 2) (enc := I2.enc) (ok := I2.ok) (base := w.heap.size) [⟨i, 3 * (C : Int)⟩] hb_z2 (g := z1.heap.size + 1) (by simp) (by (try simp); omega) rfl (by simp) (fun _ => rfl) (by intro y hy; simp at hy; subst hy; (unfold I2.ok I64; simp; omega)) rfl)
      clear hb_z2
      obtain ⟨r3, hr3⟩ : ∃ r : RR, r = ⟨rnm 3 i b, some ⟨z1.heap.size, 0, none⟩, 1, 1, some ⟨z1.heap.size + 1, 0, none⟩, 1, 1, ⟨3, i, b⟩⟩ := ⟨_, rfl⟩
      have H3 := Lib.hid hr3
      clear hr3
      go_wp2_with (at_builtin; refine appAtL rfl _ _ rfl Tryz.underlying113 Tryz.infoRR rfl (by decide) (by decide) RR.one w.heap.size _ _ _ _ [r3] LL.out rfl _ rfl (by first | rfl | (simp; done)) (by rw [H3.out]; rfl) rfl (fun _ _ => trivial) (by decide) (by omega) (by decide) (by omega) ?_; intro gM c2 wn ho hb hg hat hsn; have O := Lib.hid (O.out.keepG hg (by intro q hq; simp [Value.ownBlock] at hq ⊢; omega)); have G1 := Lib.hid (G1.out.keepG hg (by intro q hq; simp [Value.ownBlock] at hq ⊢; omega)); have E1 := Lib.hid (E1.out.keepG hg (by intro q hq; simp [Value.ownBlock] at hq ⊢; omega)); have E2 := Lib.hid (E2.out.keepG hg (by intro q hq; simp [Value.ownBlock] at hq ⊢; omega)); have G4 := Lib.hid (G4.out.keepG hg (by intro q hq; simp [Value.ownBlock] at hq ⊢; omega)); have E4 := Lib.hid (E4.out.keepG hg (by intro q hq; simp [Value.ownBlock] at hq ⊢; omega)); have LL := Lib.hid ho; have HB := HB.trans hb; simp only [Option.some.injEq, Addr.mk.injEq, and_true] at hat; clear ho hb hg)
      go_ret
      have q0 := H0.out; have q1 := H1.out; have q3 := H3.out
      refine ⟨_, _, _, [r0, r1, r3], rfl, LL.out, ?_, ?_, HB⟩
      · rw [HS.out, q0, q1, q3]; simp only [Bool.false_eq_true, if_false, if_true, List.append_nil, List.cons_append, List.nil_append, RDs]; exact ⟨⟨rfl, rfl, G1.out, E1.out⟩, ⟨rfl, rfl, O.out.le (by omega), E2.out⟩, ⟨rfl, rfl, G4.out, E4.out⟩, trivial⟩
      · rw [q0, q1, q3]; simp [RR.blks]; omega
    · go_wp2_with fail
      refine Calls.mono (impl_is) ?_
      rintro e y1 ⟨rfl, hb_y1⟩
      have hs_y1 := hb_y1.size
      (try simp at hs_y1)
      replace LL := Lib.hid (LL.out.keep (show Below _ _ y1 by repeat (first | exact Below.refl _ _ | assumption | refine below_allocS ?_ _ | refine below_callS ?_ (by assumption) | (refine Below.alloc ?_ (by first | omega | (simp; done) | (simp; omega)) _) | (refine Below.setCell ?_ (by first | omega | (simp; done) | (simp; omega)) _) | refine Below.drew ?_ | refine below_drewN ?_ _ | (refine below_call ?_ (by assumption) (by first | omega | (simp; done) | (simp; omega))) | (refine Below.trans ?_ (by assumption)))))
      replace O := Lib.hid (O.out.keep (show Below _ _ y1 by repeat (first | exact Below.refl _ _ | assumption | refine below_allocS ?_ _ | refine below_callS ?_ (by assumption) | (refine Below.alloc ?_ (by first | omega | (simp; done) | (simp; omega)) _) | (refine Below.setCell ?_ (by first | omega | (simp; done) | (simp; omega)) _) | refine Below.drew ?_ | refine below_drewN ?_ _ | (refine below_call ?_ (by assumption) (by first | omega | (simp; done) | (simp; omega))) | (refine Below.trans ?_ (by assumption)))))
      replace G1 := Lib.hid (G1.out.keep (show Below _ _ y1 by repeat (first | exact Below.refl _ _ | assumption | refine below_allocS ?_ _ | refine below_callS ?_ (by assumption) | (refine Below.alloc ?_ (by first | omega | (simp; done) | (simp; omega)) _) | (refine Below.setCell ?_ (by first | omega | (simp; done) | (simp; omega)) _) | refine Below.drew ?_ | refine below_drewN ?_ _ | (refine below_call ?_ (by assumption) (by first | omega | (simp; done) | (simp; omega))) | (refine Below.trans ?_ (by assumption)))))
      replace E1 := Lib.hid (E1.out.keep (show Below _ _ y1 by repeat (first | exact Below.refl _ _ | assumption | refine below_allocS ?_ _ | refine below_callS ?_ (by assumption) | (refine Below.alloc ?_ (by first | omega | (simp; done) | (simp; omega)) _) | (refine Below.setCell ?_ (by first | omega | (simp; done) | (simp; omega)) _) | refine Below.drew ?_ | refine below_drewN ?_ _ | (refine below_call ?_ (by assumption) (by first | omega | (simp; done) | (simp; omega))) | (refine Below.trans ?_ (by assumption)))))
      replace E2 := Lib.hid (E2.out.keep (show Below _ _ y1 by repeat (first | exact Below.refl _ _ | assumption | refine below_allocS ?_ _ | refine below_callS ?_ (by assumption) | (refine Below.alloc ?_ (by first | omega | (simp; done) | (simp; omega)) _) | (refine Below.setCell ?_ (by first | omega | (simp; done) | (simp; omega)) _) | refine Below.drew ?_ | refine below_drewN ?_ _ | (refine below_call ?_ (by assumption) (by first | omega | (simp; done) | (simp; omega))) | (refine Below.trans ?_ (by assumption)))))
      replace HB : Below w.heap.size w y1 := by repeat (first | exact Below.refl _ _ | assumption | refine below_allocS ?_ _ | refine below_callS ?_ (by assumption) | (refine Below.alloc ?_ (by first | omega | (simp; done) | (simp; omega)) _) | (refine Below.setCell ?_ (by first | omega | (simp; done) | (simp; omega)) _) | refine Below.drew ?_ | refine below_drewN ?_ _ | (refine below_call ?_ (by assumption) (by first | omega | (simp; done) | (simp; omega))) | (refine Below.trans ?_ (by assumption)))
      clear hb_y1
      go_wp2_with fail
      refine Calls.mono (impl_is) ?_
      rintro e y2 ⟨rfl, hb_y2⟩
      have hs_y2 := hb_y2.size
      (try simp at hs_y2)
      replace LL := Lib.hid (LL.out.keep (show Below _ _ y2 by repeat (first | exact Below.refl _ _ | assumption | refine below_allocS ?_ _ | refine below_callS ?_ (by assumption) | (refine Below.alloc ?_ (by first | omega | (simp; done) | (simp; omega)) _) | (refine Below.setCell ?_ (by first | omega | (simp; done) | (simp; omega)) _) | refine Below.drew ?_ | refine below_drewN ?_ _ | (refine below_call ?_ (by assumption) (by first | omega | (simp; done) | (simp; omega))) | (refine Below.trans ?_ (by assumption)))))
      replace O := Lib.hid (O.out.keep (show Below _ _ y2 by repeat (first | exact Below.refl _ _ | assumption | refine below_allocS ?_ _ | refine below_callS ?_ (by assumption) | (refine Below.alloc ?_ (by first | omega | (simp; done) | (simp; omega)) _) | (refine Below.setCell ?_ (by first | omega | (simp; done) | (simp; omega)) _) | refine Below.drew ?_ | refine below_drewN ?_ _ | (refine below_call ?_ (by assumption) (by first | omega | (simp; done) | (simp; omega))) | (refine Below.trans ?_ (by assumption)))))
      replace G1 := Lib.hid (G1.out.keep (show Below _ _ y2 by repeat (first | exact Below.refl _ _ | assumption | refine below_allocS ?_ _ | refine below_callS ?_ (by assumption) | (refine Below.alloc ?_ (by first | omega | (simp; done) | (simp; omega)) _) | (refine Below.setCell ?_ (by first | omega | (simp; done) | (simp; omega)) _) | refine Below.drew ?_ | refine below_drewN ?_ _ | (refine below_call ?_ (by assumption) (by first | omega | (simp; done) | (simp; omega))) | (refine Below.trans ?_ (by assumption)))))
      replace E1 := Lib.hid (E1.out.keep (show Below _ _ y2 by repeat (first | exact Below.refl _ _ | assumption | refine below_allocS ?_ _ | refine below_callS ?_ (by assumption) | (refine Below.alloc ?_ (by first | omega | (simp; done) | (simp; omega)) _) | (refine Below.setCell ?_ (by first | omega | (simp; done) | (simp; omega)) _) | refine Below.drew ?_ | refine below_drewN ?_ _ | (refine below_call ?_ (by assumption) (by first | omega | (simp; done) | (simp; omega))) | (refine Below.trans ?_ (by assumption)))))
      replace E2 := Lib.hid (E2.out.keep (show Below _ _ y2 by repeat (first | exact Below.refl _ _ | assumption | refine below_allocS ?_ _ | refine below_callS ?_ (by assumption) | (refine Below.alloc ?_ (by first | omega | (simp; done) | (simp; omega)) _) | (refine Below.setCell ?_ (by first | omega | (simp; done) | (simp; omega)) _) | refine Below.drew ?_ | refine below_drewN ?_ _ | (refine below_call ?_ (by assumption) (by first | omega | (simp; done) | (simp; omega))) | (refine Below.trans ?_ (by assumption)))))
      replace HB : Below w.heap.size w y2 := by repeat (first | exact Below.refl _ _ | assumption | refine below_allocS ?_ _ | refine below_callS ?_ (by assumption) | (refine Below.alloc ?_ (by first | omega | (simp; done) | (simp; omega)) _) | (refine Below.setCell ?_ (by first | omega | (simp; done) | (simp; omega)) _) | refine Below.drew ?_ | refine below_drewN ?_ _ | (refine below_call ?_ (by assumption) (by first | omega | (simp; done) | (simp; omega))) | (refine Below.trans ?_ (by assumption)))
      clear hb_y2
      go_wp2_with fail
      refine Calls.mono (impl_newRR (k := 2) (HT.out.keep (by repeat (first | exact Below.refl _ _ | assumption | refine below_allocS ?_ _ | refine below_callS ?_ (by assumption) | (refine Below.alloc ?_ (by first | omega | (simp; done) | (simp; omega)) _) | (refine Below.setCell ?_ (by first | omega | (simp; done) | (simp; omega)) _) | refine Below.drew ?_ | refine below_drewN ?_ _ | (refine below_call ?_ (by assumption) (by first | omega | (simp; done) | (simp; omega))) | (refine Below.trans ?_ (by assumption))))) rfl (by decide) (by omega) (by omega)) ?_
      rintro e y3 ⟨rfl, hb_y3⟩
      have hs_y3 := hb_y3.size
      (try simp at hs_y3)
      replace LL := Lib.hid (LL.out.keep (show Below _ _ y3 by repeat (first | exact Below.refl _ _ | assumption | refine below_allocS ?_ _ | refine below_callS ?_ (by assumption) | (refine Below.alloc ?_ (by first | omega | (simp; done) | (simp; omega)) _) | (refine Below.setCell ?_ (by first | omega | (simp; done) | (simp; omega)) _) | refine Below.drew ?_ | refine below_drewN ?_ _ | (refine below_call ?_ (by assumption) (by first | omega | (simp; done) | (simp; omega))) | (refine Below.trans ?_ (by assumption)))))
      replace O := Lib.hid (O.out.keep (show Below _ _ y3 by repeat (first | exact Below.refl _ _ | assumption | refine below_allocS ?_ _ | refine below_callS ?_ (by assumption) | (refine Below.alloc ?_ (by first | omega | (simp; done) | (simp; omega)) _) | (refine Below.setCell ?_ (by first | omega | (simp; done) | (simp; omega)) _) | refine Below.drew ?_ | refine below_drewN ?_ _ | (refine below_call ?_ (by assumption) (by first | omega | (simp; done) | (simp; omega))) | (refine Below.trans ?_ (by assumption)))))
      replace G1 := Lib.hid (G1.out.keep (show Below _ _ y3 by repeat (first | exact Below.refl _ _ | assumption | refine below_allocS ?_ _ | refine below_callS ?_ (by assumption) | (refine Below.alloc ?_ (by first | omega | (simp; done) | (simp; omega)) _) | (refine Below.setCell ?_ (by first | omega | (simp; done) | (simp; omega)) _) | refine Below.drew ?_ | refine below_drewN ?_ _ | (refine below_call ?_ (by assumption) (by first | omega | (simp; done) | (simp; omega))) | (refine Below.trans ?_ (by assumption)))))
      replace E1 := Lib.hid (E1.out.keep (show Below _ _ y3 by repeat (first | exact Below.refl _ _ | assumption | refine below_allocS ?_ _ | refine below_callS ?_ (by assumption) | (refine Below.alloc ?_ (by first | omega | (simp; done) | (simp; omega)) _) | (refine Below.setCell ?_ (by first | omega | (simp; done) | (simp; omega)) _) | refine Below.drew ?_ | refine below_drewN ?_ _ | (refine below_call ?_ (by assumption) (by first | omega | (simp; done) | (simp; omega))) | (refine Below.trans ?_ (by assumption)))))
      replace E2 := Lib.hid (E2.out.keep (show Below _ _ y3 by repeat (first | exact Below.refl _ _ | assumption | refine below_allocS ?_ _ | refine below_callS ?_ (by assumption) | (refine Below.alloc ?_ (by first | omega | (simp; done) | (simp; omega)) _) | (refine Below.setCell ?_ (by first | omega | (simp; done) | (simp; omega)) _) | refine Below.drew ?_ | refine below_drewN ?_ _ | (refine below_call ?_ (by assumption) (by first | omega | (simp; done) | (simp; omega))) | (refine Below.trans ?_ (by assumption)))))
      replace HB : Below w.heap.size w y3 := by repeat (first | exact Below.refl _ _ | assumption | refine below_allocS ?_ _ | refine below_callS ?_ (by assumption) | (refine Below.alloc ?_ (by first | omega | (simp; done) | (simp; omega)) _) | (refine Below.setCell ?_ (by first | omega | (simp; done) | (simp; omega)) _) | refine Below.drew ?_ | refine below_drewN ?_ _ | (refine below_call ?_ (by assumption) (by first | omega | (simp; done) | (simp; omega))) | (refine Below.trans ?_ (by assumption)))
      have G3 := Lib.hid (OwnF.litB2 (E := 142) (k := 3) (enc := I2b.enc) (ok := I2b.ok) (base := w.heap.size) [⟨i, 3 * (b : Int) + 1, true⟩, ⟨(n : Int) + (C : Int), 3, true⟩] hb_y3 rfl (by (try simp); omega) rfl (by simp) (fun _ => rfl) (by intro y hy; simp at hy; rcases hy with rfl | rfl <;> (unfold I2b.ok I64; simp; omega)) rfl)
      have E3 := Lib.hid (OwnF.litB (E := 123) (k := 2) (enc := I2.enc) (ok := I2.ok) (base := w.heap.size) [⟨i, 3 * (b : Int) + 2⟩] hb_y3 (g := y2.heap.size + 1) (by simp) (by (try simp); omega) rfl (by simp) (fun _ => rfl) (by intro y hy; simp at hy; subst hy; (unfold I2.ok I64; simp; omega)) rfl)
      clear hb_y3
      obtain ⟨r2, hr2⟩ : ∃ r : RR, r = ⟨rnm 2 i b, some ⟨y2.heap.size, 0, none⟩, 2, 2, some ⟨y2.heap.size + 1, 0, none⟩, 1, 1, ⟨2, i, b⟩⟩ := ⟨_, rfl⟩
      have H2 := Lib.hid hr2
      clear hr2
      go_wp2_with (at_builtin; refine appAtL rfl _ _ rfl Tryz.underlying113 Tryz.infoRR rfl (by decide) (by decide) RR.one w.heap.size _ _ _ _ [r2] LL.out rfl _ rfl (by first | rfl | (simp; done)) (by rw [H2.out]; rfl) rfl (fun _ _ => trivial) (by decide) (by omega) (by decide) (by omega) ?_; intro gL c1 wm ho hb hg hatL hsL; have O := Lib.hid (O.out.keepG hg (by intro q hq; simp [Value.ownBlock] at hq ⊢; omega)); have G1 := Lib.hid (G1.out.keepG hg (by intro q hq; simp [Value.ownBlock] at hq ⊢; omega)); have E1 := Lib.hid (E1.out.keepG hg (by intro q hq; simp [Value.ownBlock] at hq ⊢; omega)); have E2 := Lib.hid (E2.out.keepG hg (by intro q hq; simp [Value.ownBlock] at hq ⊢; omega)); have G3 := Lib.hid (G3.out.keepG hg (by intro q hq; simp [Value.ownBlock] at hq ⊢; omega)); have E3 := Lib.hid (E3.out.keepG hg (by intro q hq; simp [Value.ownBlock] at hq ⊢; omega)); have LL := Lib.hid ho; have hgL := ho.blk _ rfl; have HB := HB.trans hb; simp only [Option.some.injEq, Addr.mk.injEq, and_true] at hatL; clear ho hb hg)
      go_wp2_with fail
      refine Calls.mono (impl_is) ?_
      rintro e z1 ⟨rfl, hb_z1⟩
      have hs_z1 := hb_z1.size
      (try simp at hs_z1)
      replace LL := Lib.hid (LL.out.keep (show Below _ _ z1 by repeat (first | exact Below.refl _ _ | assumption | refine below_allocS ?_ _ | refine below_callS ?_ (by assumption) | (refine Below.alloc ?_ (by first | omega | (simp; done) | (simp; omega)) _) | (refine Below.setCell ?_ (by first | omega | (simp; done) | (simp; omega)) _) | refine Below.drew ?_ | refine below_drewN ?_ _ | (refine below_call ?_ (by assumption) (by first | omega | (simp; done) | (simp; omega))) | (refine Below.trans ?_ (by assumption)))))
      replace O := Lib.hid (O.out.keep (show Below _ _ z1 by repeat (first | exact Below.refl _ _ | assumption | refine below_allocS ?_ _ | refine below_callS ?_ (by assumption) | (refine Below.alloc ?_ (by first | omega | (simp; done) | (simp; omega)) _) | (refine Below.setCell ?_ (by first | omega | (simp; done) | (simp; omega)) _) | refine Below.drew ?_ | refine below_drewN ?_ _ | (refine below_call ?_ (by assumption) (by first | omega | (simp; done) | (simp; omega))) | (refine Below.trans ?_ (by assumption)))))
      replace G1 := Lib.hid (G1.out.keep (show Below _ _ z1 by repeat (first | exact Below.refl _ _ | assumption | refine below_allocS ?_ _ | refine below_callS ?_ (by assumption) | (refine Below.alloc ?_ (by first | omega | (simp; done) | (simp; omega)) _) | (refine Below.setCell ?_ (by first | omega | (simp; done) | (simp; omega)) _) | refine Below.drew ?_ | refine below_drewN ?_ _ | (refine below_call ?_ (by assumption) (by first | omega | (simp; done) | (simp; omega))) | (refine Below.trans ?_ (by assumption)))))
      replace E1 := Lib.hid (E1.out.keep (show Below _ _ z1 by repeat (first | exact Below.refl _ _ | assumption | refine below_allocS ?_ _ | refine below_callS ?_ (by assumption) | (refine Below.alloc ?_ (by first | omega | (simp; done) | (simp; omega)) _) | (refine Below.setCell ?_ (by first | omega | (simp; done) | (simp; omega)) _) | refine Below.drew ?_ | refine below_drewN ?_ _ | (refine below_call ?_ (by assumption) (by first | omega | (simp; done) | (simp; omega))) | (refine Below.trans ?_ (by assumption)))))
      replace E2 := Lib.hid (E2.out.keep (show Below _ _ z1 by repeat (first | exact Below.refl _ _ | assumption | refine below_allocS ?_ _ | refine below_callS ?_ (by assumption) | (refine Below.alloc ?_ (by first | omega | (simp; done) | (simp; omega)) _) | (refine Below.setCell ?_ (by first | omega | (simp; done) | (simp; omega)) _) | refine Below.drew ?_ | refine below_drewN ?_ _ | (refine below_call ?_ (by assumption) (by first | omega | (simp; done) | (simp; omega))) | (refine Below.trans ?_ (by assumption)))))
      replace G3 := Lib.hid (G3.out.keep (show Below _ _ z1 by repeat (first | exact Below.refl _ _ | assumption | refine below_allocS ?_ _ | refine below_callS ?_ (by assumption) | (refine Below.alloc ?_ (by first | omega | (simp; done) | (simp; omega)) _) | (refine Below.setCell ?_ (by first | omega | (simp; done) | (simp; omega)) _) | refine Below.drew ?_ | refine below_drewN ?_ _ | (refine below_call ?_ (by assumption) (by first | omega | (simp; done) | (simp; omega))) | (refine Below.trans ?_ (by assumption)))))
      replace E3 := Lib.hid (E3.out.keep (show Below _ _ z1 by repeat (first | exact Below.refl _ _ | assumption | refine below_allocS ?_ _ | refine below_callS ?_ (by assumption) | (refine Below.alloc ?_ (by first | omega | (simp; done) | (simp; omega)) _) | (refine Below.setCell ?_ (by first | omega | (simp; done) | (simp; omega)) _) | refine Below.drew ?_ | refine below_drewN ?_ _ | (refine below_call ?_ (by assumption) (by first | omega | (simp; done) | (simp; omega))) | (refine Below.trans ?_ (by assumption)))))
      replace HB : Below w.heap.size w z1 := by repeat (first | exact Below.refl _ _ | assumption | refine below_allocS ?_ _ | refine below_callS ?_ (by assumption) | (refine Below.alloc ?_ (by first | omega | (simp; done) | (simp; omega)) _) | (refine Below.setCell ?_ (by first | omega | (simp; done) | (simp; omega)) _) | refine Below.drew ?_ | refine below_drewN ?_ _ | (refine below_call ?_ (by assumption) (by first | omega | (simp; done) | (simp; omega))) | (refine Below.trans ?_ (by assumption)))
      clear hb_z1
      go_wp2_with fail
      refine Calls.mono (impl_newRR (k := 3) (HT.out.keep (by repeat (first | exact Below.refl _ _ | assumption | refine below_allocS ?_ _ | refine below_callS ?_ (by assumption) | (refine Below.alloc ?_ (by first | omega | (simp; done) | (simp; omega)) _) | (refine Below.setCell ?_ (by first | omega | (simp; done) | (simp; omega)) _) | refine Below.drew ?_ | refine below_drewN ?_ _ | (refine below_call ?_ (by assumption) (by first | omega | (simp; done) | (simp; omega))) | (refine Below.trans ?_ (by assumption))))) rfl (by decide) (by omega) (by omega)) ?_
      rintro e z2 ⟨rfl, hb_z2⟩
      have hs_z2 := hb_z2.size
      (try simp at hs_z2)
      replace LL := Lib.hid (LL.out.keep (show Below _ _ z2 by repeat (first | exact Below.refl _ _ | assumption | refine below_allocS ?_ _ | refine below_callS ?_ (by assumption) | (refine Below.alloc ?_ (by first | omega | (simp; done) | (simp; omega)) _) | (refine Below.setCell ?_ (by first | omega | (simp; done) | (simp; omega)) _) | refine Below.drew ?_ | refine below_drewN ?_ _ | (refine below_call ?_ (by assumption) (by first | omega | (simp; done) | (simp; omega))) | (refine Below.trans ?_ (by assumption)))))
      replace O := Lib.hid (O.out.keep (show Below _ _ z2 by repeat (first | exact Below.refl _ _ | assumption | refine below_allocS ?_ _ | refine below_callS ?_ (by assumption) | (refine Below.alloc ?_ (by first | omega | (simp; done) | (simp; omega)) _) | (refine Below.setCell ?_ (by first | omega | (simp; done) | (simp; omega)) _) | refine Below.drew ?_ | refine below_drewN ?_ _ | (refine below_call ?_ (by assumption) (by first | omega | (simp; done) | (simp; omega))) | (refine Below.trans ?_ (by assumption)))))
      replace G1 := Lib.hid (G1.out.keep (show Below _ _ z2 by repeat (first | exact Below.refl _ _ | assumption | refine below_allocS ?_ _ | refine below_callS ?_ (by assumption) | (refine Below.alloc ?_ (by first | omega | (simp; done) | (simp; omega)) _) | (refine Below.setCell ?_ (by first | omega | (simp; done) | (simp; omega)) _) | refine Below.drew ?_ | refine below_drewN ?_ _ | (refine below_call ?_ (by assumption) (by first | omega | (simp; done) | (simp; omega))) | (refine Below.trans ?_ (by assumption)))))
      replace E1 := Lib.hid (E1.out.keep (show Below _ _ z2 by repeat (first | exact Below.refl _ _ | assumption | refine below_allocS ?_ _ | refine below_callS ?_ (by assumption) | (refine Below.alloc ?_ (by first | omega | (simp; done) | (simp; omega)) _) | (refine Below.setCell ?_ (by first | omega | (simp; done) | (simp; omega)) _) | refine Below.drew ?_ | refine below_drewN ?_ _ | (refine below_call ?_ (by assumption) (by first | omega | (simp; done) | (simp; omega))) | (refine Below.trans ?_ (by assumption)))))
      replace E2 := Lib.hid (E2.out.keep (show Below _ _ z2 by repeat (first | exact Below.refl _ _ | assumption | refine below_allocS ?_ _ | refine below_callS ?_ (by assumption) | (refine Below.alloc ?_ (by first | omega | (simp; done) | (simp; omega)) _) | (refine Below.setCell ?_ (by first | omega | (simp; done) | (simp; omega)) _) | refine Below.drew ?_ | refine below_drewN ?_ _ | (refine below_call ?_ (by assumption) (by first | omega | (simp; done) | (simp; omega))) | (refine Below.trans ?_ (by assumption)))))
      replace G3 := Lib.hid (G3.out.keep (show Below _ _ z2 by repeat (first | exact Below.refl _ _ | assumption | refine below_allocS ?_ _ | refine below_callS ?_ (by assumption) | (refine Below.alloc ?_ (by first | omega | (simp; done) | (simp; omega)) _) | (refine Below.setCell ?_ (by first | omega | (simp; done) | (simp; omega)) _) | refine Below.drew ?_ | refine below_drewN ?_ _ | (refine below_call ?_ (by assumption) (by first | omega | (simp; done) | (simp; omega))) | (refine Below.trans ?_ (by assumption)))))
      replace E3 := Lib.hid (E3.out.keep (show Below _ _ z2 by repeat (first | exact Below.refl _ _ | assumption | refine below_allocS ?_ _ | refine below_callS ?_ (by assumption) | (refine Below.alloc ?_ (by first | omega | (simp; done) | (simp; omega)) _) | (refine Below.setCell ?_ (by first | omega | (simp; done) | (simp; omega)) _) | refine Below.drew ?_ | refine below_drewN ?_ _ | (refine below_call ?_ (by assumption) (by first | omega | (simp; done) | (simp; omega))) | (refine Below.trans ?_ (by assumption)))))
      replace HB : Below w.heap.size w z2 := by repeat (first | exact Below.refl _ _ | assumption | refine below_allocS ?_ _ | refine below_callS ?_ (by assumption) | (refine Below.alloc ?_ (by first | omega | (simp; done) | (simp; omega)) _) | (refine Below.setCell ?_ (by first | omega | (simp; done) | (simp; omega)) _) | refine Below.drew ?_ | refine below_drewN ?_ _ | (refine below_call ?_ (by assumption) (by first | omega | (simp; done) | (simp; omega))) | (refine Below.trans ?_ (by assumption)))
      have G4 := Lib.hid (OwnF.litB2 (E := 142) (k := 3) (enc := I2b.enc) (ok := I2b.ok) (base := w.heap.size) [⟨i, 3 * (b : Int) + 2, true⟩] hb_z2 rfl (by (try simp); omega) rfl (by simp) (fun _ => rfl) (by intro y hy; simp at hy; subst hy; (unfold I2b.ok I64; simp; omega)) rfl)
      have E4 := Lib.hid (OwnF.litB (E := 123) (k := 2) (enc := I2.enc) (ok := I2.ok) (base := w.heap.size) [⟨i, 3 * (C : Int)⟩] hb_z2 (g := z1.heap.size + 1) (by simp) (by (try simp); omega) rfl (by simp) (fun _ => rfl) (by intro y hy; simp at hy; subst hy; (unfold I2.ok I64; simp; omega)) rfl)
      clear hb_z2
      obtain ⟨r3, hr3⟩ : ∃ r : RR, r = ⟨rnm 3 i b, some ⟨z1.heap.size, 0, none⟩, 1, 1, some ⟨z1.heap.size + 1, 0, none⟩, 1, 1, ⟨3, i, b⟩⟩ := ⟨_, rfl⟩
      have H3 := Lib.hid hr3
      clear hr3
      go_wp2_with (at_builtin; refine appAtL rfl _ _ rfl Tryz.underlying113 Tryz.infoRR rfl (by decide) (by decide) RR.one w.heap.size _ _ _ _ [r3] LL.out rfl _ rfl (by first | rfl | (simp; done)) (by rw [H3.out]; rfl) rfl (fun _ _ => trivial) (by decide) (by omega) (by decide) (by omega) ?_; intro gM c2 wn ho hb hg hat hsn; have O := Lib.hid (O.out.keepG hg (by intro q hq; simp [Value.ownBlock] at hq ⊢; omega)); have G1 := Lib.hid (G1.out.keepG hg (by intro q hq; simp [Value.ownBlock] at hq ⊢; omega)); have E1 := Lib.hid (E1.out.keepG hg (by intro q hq; simp [Value.ownBlock] at hq ⊢; omega)); have E2 := Lib.hid (E2.out.keepG hg (by intro q hq; simp [Value.ownBlock] at hq ⊢; omega)); have G3 := Lib.hid (G3.out.keepG hg (by intro q hq; simp [Value.ownBlock] at hq ⊢; omega)); have E3 := Lib.hid (E3.out.keepG hg (by intro q hq; simp [Value.ownBlock] at hq ⊢; omega)); have G4 := Lib.hid (G4.out.keepG hg (by intro q hq; simp [Value.ownBlock] at hq ⊢; omega)); have E4 := Lib.hid (E4.out.keepG hg (by intro q hq; simp [Value.ownBlock] at hq ⊢; omega)); have LL := Lib.hid ho; have HB := HB.trans hb; simp only [Option.some.injEq, Addr.mk.injEq, and_true] at hat; clear ho hb hg)
      go_ret
      have q0 := H0.out; have q1 := H1.out; have q3 := H3.out; have q2 := H2.out
      refine ⟨_, _, _, [r0, r1, r2, r3], rfl, LL.out, ?_, ?_, HB⟩
      · rw [HS.out, q0, q1, q2, q3]; simp only [Bool.false_eq_true, if_false, if_true, List.append_nil, List.cons_append, List.nil_append, RDs]; exact ⟨⟨rfl, rfl, G1.out, E1.out⟩, ⟨rfl, rfl, O.out.le (by omega), E2.out⟩, ⟨rfl, rfl, G3.out, E3.out⟩, ⟨rfl, rfl, G4.out, E4.out⟩, trivial⟩
      · rw [q0, q1, q2, q3]; simp [RR.blks]; omega
end Go.Proofs.YtfnamjkmkoldeaaGreatDoor
namespace Go.Proofs.YtfnamjkmkoldeaaGreatDoor
open Go.RowKit
set_option linter.unusedVariables false
set_option linter.unusedSimpArgs false
theorem Blk.setAll {b : Nat} {T : TypeId} : ∀ (l : List Value) (o : Nat) (w : World) (cs : Array Value), Blk w b cs T → o + l.length ≤ cs.size → ∃ cs' : Array Value, Blk (w.setCells b o l) b cs' T ∧ cs'.size = cs.size ∧ (∀ j, (j < o ∨ o + l.length ≤ j) → cs'[j]? = cs[j]?) ∧ (∀ j, j < l.length → cs'[o + j]? = l[j]?) ∧ w.grownBy (w.setCells b o l) (some b) ∧ (w.setCells b o l).heap.size = w.heap.size
  | [], o, w, cs, h, _ => ⟨cs, h, rfl, fun _ _ => rfl, fun j hj => by simp at hj, grownBy_refl _ _, rfl⟩
  | v :: r, o, w, cs, h, hl => by
    simp only [List.length_cons] at hl
    obtain ⟨cs', h1, h2, h3, h4, h5, h6⟩ := Blk.setAll r (o + 1) (w.setCell ⟨b, o, none⟩ v) _ (h.set o v) (by simp; omega)
    refine ⟨cs', h1, by rw [h2]; simp, fun j hj => ?_, fun j hj => ?_, grownBy_trans (set_grown b o v) h5, ?_⟩
    · rw [h3 j (by simp only [List.length_cons] at hj; omega)]
      rw [Array.getElem?_setIfInBounds_ne (by simp only [List.length_cons] at hj; omega)]
    · cases j with
      | zero =>
        rw [Nat.add_zero, h3 o (by omega)]
        rw [Array.getElem?_setIfInBounds_self_of_lt (by omega)]; rfl
      | succ j =>
        have := h4 j (by simpa using hj)
        rw [Nat.add_assoc, Nat.add_comm 1 j] at this
        rw [this]; rfl
    · show ((w.setCell ⟨b, o, none⟩ v).setCells b (o + 1) r).heap.size = _
      rw [h6]; simp [World.setCell]
theorem Blk.setWhole {w : World} {b : Nat} {cs vs : Array Value} {T : TypeId} (h : Blk w b cs T) (hs : cs.size = vs.size) : Blk (w.setCells b 0 vs.toList) b vs T ∧ w.grownBy (w.setCells b 0 vs.toList) (some b) ∧ (w.setCells b 0 vs.toList).heap.size = w.heap.size := by
  obtain ⟨cs', h1, h2, _, h4, h5, h6⟩ := Blk.setAll vs.toList 0 w cs h (by simp; omega)
  have e : cs' = vs := by
    apply Array.ext_getElem?
    intro j
    by_cases hj : j < vs.size
    · have := h4 j (by simpa using hj)
      rw [Nat.zero_add] at this
      rw [this]; simp
    · rw [Array.getElem?_eq_none (by omega), Array.getElem?_eq_none (by omega)]
  rw [e] at h1
  exact ⟨h1, h5, h6⟩
theorem wp_store_blk {P : Program} {op : Oper} {a : Act} {w : World} {K : Act → World → Prop} {Q : Exit → Act → World → Prop} {b : Nat} {cs vs : Array Value} {T : TypeId} (ty : TypeId) (x y : Operand) (ho : op.op = .store ty x y)
    (hx : a.eval x = .pointer (some ⟨b, 0, none⟩)) (hy : a.eval y = .agg vs) (h : Blk w b cs T) (hs : cs.size = vs.size) (hi : (P.info? ty).map (·.size) = some vs.size) (h1 : vs.all (·.oneCell') = true)
    (hK : ∀ w', Blk w' b vs T → w.grownBy w' (some b) → w'.heap.size = w.heap.size → K (a.put op.dst undef) w') : op.wp P a w K Q :=
  wp_store_mid ty x y ho b 0 vs hx hy (fun j hj => ⟨by rw [Nat.zero_add, h.cell, Array.getElem?_eq_getElem (by omega)]; rfl, by rw [Nat.zero_add]; exact h.free j⟩) hi h1 (hK _ (h.setWhole hs).1 (h.setWhole hs).2.1 (h.setWhole hs).2.2)
theorem wpList_store_blk {P : Program} {ops : Array Oper} {rest : List Oper} {op : Oper} {a : Act} {w : World} {Q : Exit → Act → World → Prop} {b : Nat} {cs vs : Array Value} {T : TypeId} (hgd : op.guard = none) (ty : TypeId) (x y : Operand) (ho : op.op = .store ty x y)
    (hx : a.eval x = .pointer (some ⟨b, 0, none⟩)) (hy : a.eval y = .agg vs) (h : Blk w b cs T) (hs : cs.size = vs.size) (hi : (P.info? ty).map (·.size) = some vs.size) (h1 : vs.all (·.oneCell') = true)
    (hK : ∀ w', Blk w' b vs T → w.grownBy w' (some b) → w'.heap.size = w.heap.size → wpList P ops Q rest (a.put op.dst undef) w') : wpList P ops Q (op :: rest) a w :=
  wpList_plain hgd fun _ hK' => wp_store_blk ty x y ho hx hy h hs hi h1 fun w' g1 g2 g3 => hK' _ _ (hK w' g1 g2 g3)
end Go.Proofs.YtfnamjkmkoldeaaGreatDoor
