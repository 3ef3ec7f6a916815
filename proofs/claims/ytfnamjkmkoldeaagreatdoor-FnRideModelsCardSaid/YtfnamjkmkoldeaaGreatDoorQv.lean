/- Texts of models: plain laws, and numbers of at most two digits in decimal.; The text of a list of numbers, of words: the program, walked.; The text of a list of numbers: the program, walked.; The text of a rule: the program, walked. -/
import Derived.Test.YtfnamjkmkoldeaaGreatDoorQk
import Derived.Test.YtfnamjkmkoldeaaGreatDoorQn
import Derived.Test.YtfnamjkmkoldeaaGreatDoorQe
import Derived.Test.YtfnamjkmkoldeaaGreatDoorQj
import Derived.Lib.Join
import Derived.Test.YtfnamjkmkoldeaaGreatDoorQc
import Derived.Test.YtfnamjkmkoldeaaGreatDoorSj2
import Derived.Test.YtfnamjkmkoldeaaGreatDoorQa
import Derived.Test.YtfnamjkmkoldeaaGreatDoorRt
namespace Go.Proofs.YtfnamjkmkoldeaaGreatDoor
open Go.RowKit
set_option linter.unusedVariables false
set_option linter.unusedSimpArgs false
def mkS (l : List UInt8) : ByteArray := ⟨l.toArray⟩
theorem mkS_app (a b : List UInt8) : mkS a ++ mkS b = mkS (a ++ b) := by
  apply ByteArray.ext; simp [mkS]
theorem mkS_size (l : List UInt8) : (mkS l).size = l.length := rfl
theorem mkS_list (l : List UInt8) : (mkS l).data.toList = l := rfl
/-- numbers in a model's text -/
def dd (x : Int) : List UInt8 := Lib.decDigits x.toNat
def nT (l : List Int) : List UInt8 := Lib.join (l.map dd) [44]
def tT (t : I2b) : List UInt8 := dd t.a ++ [if t.c then 61 else 33] ++ dd t.b
def aT (x : I2) : List UInt8 := dd x.a ++ [58] ++ dd x.b
def lT (ws : List (List UInt8)) : List UInt8 := if ws = [] then [45] else Lib.join ws [38]
def rT (r : RuD) : List UInt8 := r.nm.data.toList ++ [32] ++ lT (r.g.map tT) ++ [32] ++ lT (r.e.map aT)
def rsT (rs : List RuD) : List UInt8 := rs.flatMap fun r => rT r ++ [10]
def mdT (sz st : List Int) (rs : List RuD) : List UInt8 := nT sz ++ [32] ++ nT st ++ [10] ++ rsT rs
theorem dd_len {x : Int} (h : x < 33) : (dd x).length ≤ 2 := by
  rw [dd, Lib.decDigits_length]
  exact nDig_le (by omega) (by decide)
theorem dd_ne (x : Int) : dd x ≠ [] := dec_ne _
theorem join_snoc (l : List (List UInt8)) (x sep : List UInt8) : Lib.join (l ++ [x]) sep = (if l = [] then [] else Lib.join l sep ++ sep) ++ x := by
  cases l with
  | nil => simp [Lib.join_one]
  | cons y r =>
    simp only [List.cons_append, Lib.join_cons, if_neg (List.cons_ne_nil y r)]
    simp [Lib.joinTail]
theorem join_len {l : List (List UInt8)} {sep : List UInt8} {m : Nat} (h : ∀ x ∈ l, x.length ≤ m) : (Lib.join l sep).length ≤ l.length * (m + sep.length) := by
  cases l with
  | nil => simp [Lib.join_nil]
  | cons y r =>
    have h1 : ∀ l : List (List UInt8), (∀ x ∈ l, x.length ≤ m) → Lib.lens l ≤ l.length * m := fun l => by
      induction l with
      | nil => intro _; simp [Lib.lens]
      | cons z q ih =>
        intro hz
        have h2 := ih fun x hx => hz x (List.mem_cons_of_mem _ hx)
        have h3 := hz z (List.mem_cons_self ..)
        simp [Lib.lens] at h2 ⊢
        rw [Nat.add_mul, Nat.one_mul]; omega
    have h2 := h1 _ h
    rw [Lib.join_length]
    rw [List.length_cons] at h2 ⊢
    rw [Nat.mul_add]
    have h3 : sep.length * r.length ≤ (r.length + 1) * sep.length := by rw [Nat.mul_comm]; exact Nat.mul_le_mul_right _ (Nat.le_succ _)
    omega
theorem nT_len {l : List Int} (h : ∀ x ∈ l, x < 33) : (nT l).length ≤ l.length * 3 := by
  have := join_len (l := l.map dd) (sep := [44]) (m := 2) (fun x hx => by obtain ⟨y, hy, rfl⟩ := List.mem_map.1 hx; exact dd_len (h y hy))
  rw [List.length_map] at this
  exact this
theorem tT_len {t : I2b} (ha : t.a < 33) (hb : t.b < 33) : (tT t).length ≤ 5 := by
  have h1 := dd_len ha
  have h2 := dd_len hb
  simp [tT]; omega
theorem aT_len {x : I2} (ha : x.a < 33) (hb : x.b < 33) : (aT x).length ≤ 5 := by
  have h1 := dd_len ha
  have h2 := dd_len hb
  simp [aT]; omega
theorem lT_len {l : List (List UInt8)} (h : ∀ x ∈ l, x.length ≤ 5) : (lT l).length ≤ l.length * 6 + 1 := by
  rw [lT]
  split
  · simp
  · have := join_len (l := l) (sep := [38]) h
    simp at this
    omega
/-- the rule's numbers are small -/
structure RuS (r : RuD) : Prop where
  nm : r.nm.size ≤ 100
  gl : r.g.length ≤ 100
  el : r.e.length ≤ 100
  g : ∀ t ∈ r.g, 0 ≤ t.a ∧ t.a < 33 ∧ 0 ≤ t.b ∧ t.b < 33
  e : ∀ a ∈ r.e, 0 ≤ a.a ∧ a.a < 33 ∧ 0 ≤ a.b ∧ a.b < 33
theorem RuS.gT {r : RuD} (h : RuS r) : (lT (r.g.map tT)).length ≤ 601 := by
  have := lT_len (l := r.g.map tT) (fun x hx => by obtain ⟨y, hy, rfl⟩ := List.mem_map.1 hx; exact tT_len (h.g y hy).2.1 (h.g y hy).2.2.2)
  rw [List.length_map] at this
  have := h.gl
  omega
theorem RuS.eT {r : RuD} (h : RuS r) : (lT (r.e.map aT)).length ≤ 601 := by
  have := lT_len (l := r.e.map aT) (fun x hx => by obtain ⟨y, hy, rfl⟩ := List.mem_map.1 hx; exact aT_len (h.e y hy).2.1 (h.e y hy).2.2.2)
  rw [List.length_map] at this
  have := h.el
  omega
theorem RuS.len {r : RuD} (h : RuS r) : (rT r).length ≤ 2000 := by
  have h1 := h.gT
  have h2 := h.eT
  have h3 : r.nm.data.toList.length ≤ 100 := h.nm
  simp only [rT, List.length_append, List.length_singleton]; omega
theorem rsT_len {rs : List RuD} (h : ∀ r ∈ rs, RuS r) : (rsT rs).length ≤ 2001 * rs.length := by
  induction rs with
  | nil => simp [rsT]
  | cons r l ih =>
    have h1 := ih fun x hx => h x (List.mem_cons_of_mem _ hx)
    have h2 := (h r (List.mem_cons_self ..)).len
    rw [rsT] at h1 ⊢
    simp only [List.flatMap_cons, List.length_append, List.length_cons, List.length_nil]
    omega
theorem rsT_take {rs : List RuD} {k : Nat} {r : RuD} (h : rs[k]? = some r) : rsT (rs.take (k + 1)) = rsT (rs.take k) ++ (rT r ++ [10]) := by
  rw [rsT, rsT, take_at h, List.flatMap_append, List.flatMap_singleton]
theorem map_snoc9 {α β : Type} (f : α → β) {l : List α} {k : Nat} {x : α} (h : l[k]? = some x) : (l.take (k + 1)).map f = (l.take k).map f ++ [f x] := by
  rw [take_at h, List.map_append]; rfl
theorem lt33 {n : Nat} (h : n < 33) : n < 10 ∨ n = 10 ∨ n = 11 ∨ n = 12 ∨ n = 13 ∨ n = 14 ∨ n = 15 ∨ n = 16 ∨ n = 17 ∨ n = 18 ∨ n = 19 ∨ n = 20 ∨ n = 21 ∨ n = 22 ∨ n = 23 ∨ n = 24 ∨ n = 25 ∨ n = 26 ∨ n = 27 ∨ n = 28 ∨ n = 29 ∨ n = 30 ∨ n = 31 ∨ n = 32 := by omega
theorem dec_one {n : Nat} (h : n < 10) : digStr n = mkS (Lib.decDigits n) := by rw [Lib.decDigits_one h]; rfl
theorem dec_two (n : Nat) (h : 10 ≤ n) (h9 : n < 100) : Lib.decDigits n = [UInt8.ofNat (48 + n / 10), UInt8.ofNat (48 + n % 10)] := by
  rw [Lib.decDigits.eq_def n, dif_neg (by omega), Lib.decDigits_one (show n / 10 < 10 by omega)]; rfl
set_option maxRecDepth 100000 in
set_option maxHeartbeats 4000000 in
theorem impl_decimal2 {n : Nat} {w : World} (hn : n < 33) : Calls Tryz.prog 151 #[.int .i64 (n : Int)] w fun e w' => e = .returned (.string (mkS (Lib.decDigits n))) ∧ w = w' := by
  rcases lt33 hn with h | rfl | rfl | rfl | rfl | rfl | rfl | rfl | rfl | rfl | rfl | rfl | rfl | rfl | rfl | rfl | rfl | rfl | rfl | rfl | rfl | rfl | rfl | rfl
  · rw [← dec_one h]; exact impl_decimal h
  all_goals
    rw [dec_two _ (by decide) (by decide)]
    clear hn
    go_enter Tryz.func151, Tryz.ntmps151
    go_wp2
    go_ret
    exact ⟨by kernel_rfl, rfl⟩
end Go.Proofs.YtfnamjkmkoldeaaGreatDoor
namespace Go.Proofs.YtfnamjkmkoldeaaGreatDoor
open Go.RowKit
set_option linter.unusedVariables false
set_option linter.unusedSimpArgs false
abbrev OwnS := OwnF 1 (fun s : ByteArray => [Value.string s]) (fun s => s.size ≤ maxLen) 9
theorem OwnS.nil (w : World) (base : Nat) : OwnS w base none 0 0 [] := ⟨World.ownsRow_nil w base _ 1, (fun _ h => by cases h), rfl, fun _ => rfl⟩
theorem Tryz.infoStr : (Tryz.prog.info? 9).map (fun i => (i.zero, i.size, i.bytes)) = some (some (.string ⟨#[]⟩), 1, 16) := by kernel_rfl
theorem join_S {a : Option Addr} {n c base : Nat} {l : List (List UInt8)} {sp : UInt8} {w : World} (h : OwnS w base a n c (l.map mkS)) (hn : n ≤ 1048576) (hz : (Lib.join l [sp]).length ≤ 1000000) :
    Calls Tryz.prog 152 #[.slice a n c, .string (mkS [sp])] w fun e w' => e = .returned (.string (mkS (Lib.join l [sp]))) ∧ Below w.heap.size w w' := by
  have hl := h.len
  have hl2 : l.length = n := by simpa using hl
  have e1 : (l.map mkS).map (·.data.toList) = l := by rw [List.map_map]; exact List.map_id' l
  by_cases h0 : n = 0
  · subst h0
    obtain rfl : l = [] := List.length_eq_zero_iff.1 hl2
    refine (Tryz.strings_Join_none a c (mkS [sp]) w).mono ?_
    rintro e w' ⟨rfl, rfl⟩
    exact ⟨rfl, Below.refl _ _⟩
  · obtain ⟨g, rfl⟩ := h.shape (by omega)
    have hF := h.flats
    have hj := Tryz.strings_Join g 0 c (l.map mkS) (mkS [sp]) w (fun j x hx => by
      obtain ⟨b, off, he, _, hc⟩ := hF.pos.resolve_left h0
      cases he
      have := hc j x hx 0 _ rfl
      simpa using this) (h.blk g rfl).2 (by rw [hl]; omega) (by rw [hl]; exact hF.cap) (by rw [e1]; show (Lib.join l [sp]).length ≤ _; omega)
    rw [hl, e1] at hj
    exact hj
end Go.Proofs.YtfnamjkmkoldeaaGreatDoor
namespace Go.Proofs.YtfnamjkmkoldeaaGreatDoor
open Go.RowKit
set_option linter.unusedVariables false
set_option linter.unusedSimpArgs false
theorem flat_S (l : List ByteArray) : l.flatMap (fun s : ByteArray => [Value.string s]) = l.map Value.string := by
  induction l with
  | nil => rfl
  | cons x r ih => rw [List.flatMap_cons, ih]; rfl
theorem OwnS.set {w : World} {base g n c : Nat} {l : List ByteArray} (h : OwnS w base (some ⟨g, 0, none⟩) n c l) (k : Nat) {s : ByteArray} (hs : s.size ≤ maxLen) : OwnS (w.setCell ⟨g, k, none⟩ (.string s)) base (some ⟨g, 0, none⟩) n c (l.set k s) := by
  obtain ⟨h1, h2, h3, h4⟩ := h
  refine ⟨?_, fun y hy => ?_, by rw [List.length_set]; exact h3, h4⟩
  · rw [flat_S] at h1 ⊢
    rw [List.map_set]
    exact (h1.stored k (.string s)).1
  · rcases List.mem_or_eq_of_mem_set hy with h5 | h5
    · exact h2 y h5
    · rw [h5]; exact hs
set_option maxHeartbeats 2000000 in
theorem impl_join {a : Option Addr} {n c : Nat} {l : List Int} {w : World} (hI : Ints w a n c l) (hn : n ≤ 1000) (hv : ∀ x ∈ l, 0 ≤ x ∧ x < 33) :
    Calls Tryz.prog 126 #[.slice a n c, .string (mkS [44])] w fun e w' => e = .returned (.string (mkS (nT l))) ∧ Below w.heap.size w w' := by
  have HI := Lib.hid hI
  have HV := Lib.hid hv
  have HL := Lib.hid hI.len
  obtain ⟨i0, hi, hz0, hz1, hz2⟩ := info_parts Tryz.infoStr
  obtain ⟨w1, hmk, hown, hgr⟩ := run_make_full (P := Tryz.prog) w w.heap.size 179 9 i0 (.string ⟨#[]⟩) 1 Tryz.underlying179 hi hz0 hz1 .i64 .i64 n (by rw [hz2]; omega) (by unfold maxLen; omega) (Nat.le_refl _)
  have hb1 : Below w.heap.size w w1 := (Below.refl _ _).grown hgr (Nat.le_refl _) (fun k h => by cases h)
  have ho : OwnS w1 w.heap.size (some ⟨w.heap.size, 0, none⟩) n n (List.replicate n ⟨#[]⟩) := by
    refine ⟨?_, fun x hx => ?_, by simp, fun _ => rfl⟩
    · have : (madeCells (Value.cells (.string ⟨#[]⟩)) (n * 1)).toList = (List.replicate n (⟨#[]⟩ : ByteArray)).map Value.string := by
        rw [Nat.mul_one, show Value.cells (.string ⟨#[]⟩) = #[.string ⟨#[]⟩] from rfl, toList_madeCells_one]; simp
      rw [this] at hown
      rw [flat_S]; exact hown
    · obtain ⟨_, rfl⟩ := List.mem_replicate.1 hx; exact Nat.zero_le _
  have O := Lib.hid (show OwnS w1 w.heap.size (some ⟨w.heap.size, 0, none⟩) n n (((l.map fun x => mkS (dd x)).take 0) ++ List.replicate (n - 0) ⟨#[]⟩) from ho)
  have HB1 := Lib.hid hb1
  clear hI hv hown hgr hi hz0 hz1 hz2 hb1 ho
  go_enter Tryz.func126, Tryz.ntmps126
  go_wp2_with fail
  clear hmk
  go_loopw [13] (fun s13 wr => ∃ j : Nat, s13 = .int .i64 j ∧ j ≤ n ∧ Hid (Below w.heap.size w wr) ∧ Hid (OwnS wr w.heap.size (some ⟨w.heap.size, 0, none⟩) n n (((l.map fun x => mkS (dd x)).take j) ++ List.replicate (n - j) ⟨#[]⟩))) (fun s13 _ => n - (intOf s13).toNat)
  case atStart => exact ⟨0, rfl, by omega, HB1, O⟩
  case round =>
    clear HB1 O
    obtain ⟨j, rfl, hj, HB, O⟩ := hrel
    by_cases hlt : j < n
    · have hlt' : (j : Int) < (n : Int) := by omega
      have hj0 : (0 : Int) ≤ (j : Int) := by omega
      obtain ⟨b, off, x, rfl, hb, hx, hcell, _⟩ := (HI.out.keep HB.out).at hlt
      have hxv := HV.out x (List.mem_of_getElem? hx)
      obtain ⟨q, rfl⟩ := Int.eq_ofNat_of_zero_le hxv.1
      have hq : q < 33 := by omega
      have hLx : (l.map fun x => mkS (dd x))[j]? = some (mkS (dd (q : Int))) := by rw [List.getElem?_map, hx]; rfl
      have hset := set_fill (z := (⟨#[]⟩ : ByteArray)) hLx n (by rw [List.length_map]; exact HL.out)
      have hsz : (mkS (dd (q : Int))).size ≤ maxLen := by
        have := dd_len (x := (q : Int)) (by omega)
        rw [mkS_size]; unfold maxLen; omega
      have O2 := Lib.hid (by have h := O.out.set j hsz; rw [hset] at h; exact h)
      have hcells := O.out.flats
      obtain ⟨b', off', y, he, hb', hy, _, hc'⟩ := hcells.at hlt
      simp only [Option.some.injEq, Addr.mk.injEq, and_true] at he
      obtain ⟨rfl, rfl⟩ := he
      have hc0 := hc' 0 _ rfl
      have hfz := O.out.free j
      have HD := Lib.hid (show mkS (Lib.decDigits q) = mkS (dd (q : Int)) by rw [dd, Int.toNat_natCast])
      have HB2 := Lib.hid (HB.out.setCell (p := ⟨w.heap.size, j, none⟩) (Nat.le_refl _) (.string (mkS (dd (q : Int)))))
      simp only [Nat.mul_one, Nat.add_zero, Nat.zero_add] at hc0
      clear hx hxv hLx hset hsz hcells hy hc' O
      go_wp2_with fail
      refine Calls.mono (impl_decimal2 hq) ?_
      rintro e _ ⟨rfl, rfl⟩
      rw [HD.out]
      go_wp2
      go_roundw
      case rel => exact ⟨j + 1, by go_num, by omega, HB2, O2⟩
      case measure => simp [intOf]; omega
    · obtain rfl : n = j := by omega
      have hlt' : ¬ (n : Int) < (n : Int) := by omega
      have hfin : ((l.map fun x => mkS (dd x)).take n) ++ List.replicate (n - n) (⟨#[]⟩ : ByteArray) = (l.map dd).map mkS := by
        rw [Nat.sub_self, List.replicate_zero, List.append_nil, List.take_of_length_le (by rw [List.length_map, HL.out]; exact Nat.le_refl _), List.map_map]; rfl
      have O2 := O.out
      rw [hfin] at O2
      have hz := nT_len (l := l) (fun x hx => (HV.out x hx).2)
      have KJ := Lib.hid (join_S (sp := 44) O2 (by omega) (by show (nT l).length ≤ _; rw [HL.out] at hz; omega))
      have hbl := HB.out
      clear hfin O2 hz O
      go_wp2_with fail
      refine Calls.mono KJ.out ?_
      rintro e w2 ⟨rfl, hb2⟩
      have hbe := hbl.trans (hb2.mono hbl.size)
      go_wp2
      go_ret
      exact ⟨rfl, hbe⟩
set_option maxHeartbeats 1000000 in
theorem impl_listText {a : Option Addr} {n c base : Nat} {l : List (List UInt8)} {w : World} (h : OwnS w base a n c (l.map mkS)) (hn : n ≤ 1000) (hz : ∀ x ∈ l, x.length ≤ 5) :
    Calls Tryz.prog 153 #[.slice a n c] w fun e w' => e = .returned (.string (mkS (lT l))) ∧ Below w.heap.size w w' := by
  have hl : l.length = n := by simpa using h.len
  by_cases h0 : n = 0
  · subst h0
    obtain rfl : l = [] := List.length_eq_zero_iff.1 hl
    clear h
    go_enter Tryz.func153, Tryz.ntmps153
    go_wp2
    go_ret
    exact ⟨rfl, Below.refl _ _⟩
  · have hj := join_len (sep := [38]) hz
    have KJ := Lib.hid (join_S (sp := 38) h (by omega) (by rw [hl] at hj; simp at hj; omega))
    have HT := Lib.hid (show lT l = Lib.join l [38] by rw [lT, if_neg]; rintro rfl; exact h0 hl.symm)
    have h0' : ((n : Int) == 0) = false := by rw [beq_eq_false_iff_ne]; omega
    clear h hj
    go_enter Tryz.func153, Tryz.ntmps153
    go_wp2_with fail
    refine Calls.mono KJ.out ?_
    rintro e w2 ⟨rfl, hb2⟩
    go_wp2
    go_ret
    exact ⟨by rw [HT.out]; rfl, hb2⟩
end Go.Proofs.YtfnamjkmkoldeaaGreatDoor
namespace Go.Proofs.YtfnamjkmkoldeaaGreatDoor
open Go.RowKit
set_option linter.unusedVariables false
set_option linter.unusedSimpArgs false
set_option maxRecDepth 100000 in
set_option maxHeartbeats 4000000 in
theorem impl_ruleText {nm : ByteArray} {ga ea : Option Addr} {gn gc en ec : Nat} {g : List I2b} {e : List I2} {w : World} (hG : F2b w ga gn gc g) (hE : F2 w ea en ec e) (hr : RuS ⟨nm, g, e⟩) :
    Calls Tryz.prog 127 #[.agg #[.string nm, .slice ga gn gc, .slice ea en ec]] w fun ed w' => ed = .returned (.string (mkS (rT ⟨nm, g, e⟩))) ∧ Below w.heap.size w w' := by
  have HG := Lib.hid hG
  have HE := Lib.hid hE
  have HR := Lib.hid hr
  have hgn : gn ≤ 100 := by rw [← hG.len]; exact hr.gl
  have hen : en ≤ 100 := by rw [← hE.len]; exact hr.el
  have hnm : nm.size ≤ 100 := hr.nm
  obtain ⟨wA, hwA⟩ : ∃ wA : World, wA = w.alloc (.cells #[.string nm, .slice ga gn gc, .slice ea en ec] 98) := ⟨_, rfl⟩
  have hsA : wA.heap.size = w.heap.size + 1 := by rw [hwA]; simp
  have HBA := Lib.hid (show Below w.heap.size w wA by rw [hwA]; repeat (first | exact Below.refl _ _ | assumption | refine below_allocS ?_ _ | refine below_callS ?_ (by assumption) | (refine Below.alloc ?_ (by first | omega | (simp; done) | (simp; omega)) _) | (refine Below.setCell ?_ (by first | omega | (simp; done) | (simp; omega)) _) | refine Below.drew ?_ | refine below_drewN ?_ _ | (refine below_call ?_ (by assumption) (by first | omega | (simp; done) | (simp; omega))) | (refine Below.trans ?_ (by assumption))))
  have X := Lib.hid (show Blk wA w.heap.size #[.string nm, .slice ga gn gc, .slice ea en ec] 98 by rw [hwA]; exact Blk.made _ _ _)
  have x1 := X.out.cell 1
  have xl := X.out.lt
  simp at x1
  clear hG hE hr
  go_enter Tryz.func127, Tryz.ntmps127
  go_wp2_with fail
  rw [← hwA]
  clear hwA
  go_wp2_with fail
  clear x1 xl
  go_loopw [3, 13] (fun s3 s13 wr => ∃ (j c' : Nat) (a' : Option Addr), s3 = .slice a' j c' ∧ s13 = .int .i64 j ∧ j ≤ gn ∧ w.heap.size + 1 ≤ wr.heap.size ∧ Hid (Below w.heap.size w wr) ∧ Hid (Blk wr w.heap.size #[.string nm, .slice ga gn gc, .slice ea en ec] 98) ∧ Hid (OwnS wr (w.heap.size + 1) a' j c' (((g.map tT).take j).map mkS))) (fun _ s13 _ => gn - (intOf s13).toNat)
  case atStart => exact ⟨0, 0, none, rfl, rfl, by omega, by omega, HBA, X, Lib.hid (OwnS.nil _ _)⟩
  case round =>
    clear HBA X
    obtain ⟨j, c', a', rfl, rfl, hj, hsr, HB, X, O⟩ := hrel
    by_cases hlt : j < gn
    · have hlt' : (j : Int) < (gn : Int) := by omega
      have hj0 : (0 : Int) ≤ (j : Int) := by omega
      obtain ⟨b, off, x, rfl, hb, hx, hwf, c0, c1, c2⟩ := F2b.get (HG.out.keep HB.out) hlt
      have hxv := HR.out.g x (List.mem_of_getElem? hx)
      have hM : (g.map tT)[j]? = some (tT x) := by rw [List.getElem?_map, hx]; rfl
      have HM := Lib.hid (map_snoc9 mkS hM)
      have hts := tT_len hxv.2.1 hxv.2.2.2
      obtain ⟨xa, xb, xc⟩ := x
      simp only at hxv c0 c1 c2
      obtain ⟨q1, rfl⟩ := Int.eq_ofNat_of_zero_le hxv.1
      obtain ⟨q2, rfl⟩ := Int.eq_ofNat_of_zero_le hxv.2.2.1
      have hq1 : q1 < 33 := by omega
      have hq2 : q2 < 33 := by omega
      have hd1 : (mkS (Lib.decDigits q1)).size ≤ 2 := by have := dd_len (x := (q1 : Int)) (by omega); rw [dd, Int.toNat_natCast] at this; exact this
      have hd2 : (mkS (Lib.decDigits q2)).size ≤ 2 := by have := dd_len (x := (q2 : Int)) (by omega); rw [dd, Int.toNat_natCast] at this; exact this
      have HEV := Lib.hid (show mkS (Lib.decDigits q1) ++ mkS [if xc then 61 else 33] ++ mkS (Lib.decDigits q2) = mkS (tT ⟨(q1 : Int), (q2 : Int), xc⟩) by
        rw [mkS_app, mkS_app, tT, dd, dd, Int.toNat_natCast, Int.toNat_natCast])
      have K1 := Lib.hid (fun (wx : World) => impl_decimal2 (w := wx) hq1)
      have K2 := Lib.hid (fun (wx : World) => impl_decimal2 (w := wx) hq2)
      have hts' : (mkS (tT ⟨(q1 : Int), (q2 : Int), xc⟩)).size ≤ maxLen := by rw [mkS_size]; unfold maxLen; omega
      have HTS := Lib.hid hts'
      generalize mkS (tT ⟨(q1 : Int), (q2 : Int), xc⟩) = ts at *
      generalize mkS (Lib.decDigits q1) = d1 at *
      generalize mkS (Lib.decDigits q2) = d2 at *
      have f1 : ¬ 9223372036854775807 < d1.size + 1 := by omega
      have f2 : ¬ 9223372036854775807 < d1.size + 1 + d2.size := by omega
      clear hx hwf hxv hM hts hts'
      cases xc
      · go_wp2_with fail
        obtain ⟨W1, hW1⟩ : ∃ W1 : World, W1 = wr.alloc (.cells #[.int .i64 (q1 : Int), .int .i64 (q2 : Int), .bool false] 142) := ⟨_, rfl⟩
        have hbW : Below wr.heap.size wr W1 := by rw [hW1]; repeat (first | exact Below.refl _ _ | assumption | refine below_allocS ?_ _ | refine below_callS ?_ (by assumption) | (refine Below.alloc ?_ (by first | omega | (simp; done) | (simp; omega)) _) | (refine Below.setCell ?_ (by first | omega | (simp; done) | (simp; omega)) _) | refine Below.drew ?_ | refine below_drewN ?_ _ | (refine below_call ?_ (by assumption) (by first | omega | (simp; done) | (simp; omega))) | (refine Below.trans ?_ (by assumption)))
        have E : Blk W1 wr.heap.size #[.int .i64 (q1 : Int), .int .i64 (q2 : Int), .bool false] 142 := by rw [hW1]; exact Blk.made _ _ _
        have e0 := E.cell 0
        have e1 := E.cell 1
        have el := E.lt
        have HE1 := Lib.hid E
        simp at e0 e1
        rw [← hW1]
        have hsW : wr.heap.size + 1 = W1.heap.size := by rw [hW1]; simp
        clear hW1 E c0 c1 c2
        refine wp_region_noPanic ?_
        refine wp_region_M (L := 11) (S := fun wx => Below W1.heap.size W1 wx) (by kernel_rfl) ?_ (fun hHeld => ?_)
        · exact (Below.refl _ _).drew
        refine wpAnyM_take (i := 0) (v := ?_) (by simp only [List.getElem?_toArray, List.getElem?_cons_succ, List.getElem?_cons_zero] <;> rfl) (by kernel_rfl) (by kernel_rfl) (by kernel_rfl) (by kernel_rfl) (by kernel_rfl) (fun _ _ _ h => h) (Or.inl ⟨by rfl, ?_⟩) (by assumption) ?_
        rotate_left
        · (intro wv hSw; (try dsimp only at hSw); obtain ⟨hcq, _⟩ := bcell hSw; have hsq := Below.size hSw; go_simp; try with_reducible rfl)
        try simp only [Act.put, List.setIfInBounds_toArray, List.set_cons_zero, List.set_cons_succ]
        refine wpAnyM_take (i := 1) (v := ?_) (by simp only [List.getElem?_toArray, List.getElem?_cons_succ, List.getElem?_cons_zero] <;> rfl) (by kernel_rfl) (by kernel_rfl) (by kernel_rfl) (by kernel_rfl) (by kernel_rfl) (fun _ _ _ h => h) (Or.inl ⟨by rfl, ?_⟩) (by assumption) ?_
        rotate_left
        · (intro wv hSw; (try dsimp only at hSw); obtain ⟨hcq, _⟩ := bcell hSw; have hsq := Below.size hSw; go_simp; try with_reducible rfl)
        try simp only [Act.put, List.setIfInBounds_toArray, List.set_cons_zero, List.set_cons_succ]
        refine wpAnyM_take (i := 2) (v := ?_) (by simp only [List.getElem?_toArray, List.getElem?_cons_succ, List.getElem?_cons_zero] <;> rfl) (by kernel_rfl) (by kernel_rfl) (by kernel_rfl) (by kernel_rfl) (by kernel_rfl) (fun _ _ _ h => h) (Or.inl ⟨by rfl, ?_⟩) (by assumption) ?_
        rotate_left
        · (intro wv hSw; (try dsimp only at hSw); obtain ⟨hcq, _⟩ := bcell hSw; have hsq := Below.size hSw; have p0 := (hcq _ _ el).trans e0; have pl := Nat.lt_of_lt_of_le el hsq; go_simp; try with_reducible rfl)
        try simp only [Act.put, List.setIfInBounds_toArray, List.set_cons_zero, List.set_cons_succ]
        refine wpAnyM_take (i := 4) (v := ?_) (by simp only [List.getElem?_toArray, List.getElem?_cons_succ, List.getElem?_cons_zero] <;> rfl) (by kernel_rfl) (by kernel_rfl) (by kernel_rfl) (by kernel_rfl) (by kernel_rfl) (fun _ _ _ h => h) (Or.inl ⟨by rfl, ?_⟩) (by assumption) ?_
        rotate_left
        · (intro wv hSw; (try dsimp only at hSw); obtain ⟨hcq, _⟩ := bcell hSw; have hsq := Below.size hSw; go_simp; try with_reducible rfl)
        try simp only [Act.put, List.setIfInBounds_toArray, List.set_cons_zero, List.set_cons_succ]
        refine wpAnyM_take (i := 6) (v := ?_) (by simp only [List.getElem?_toArray, List.getElem?_cons_succ, List.getElem?_cons_zero] <;> rfl) (by kernel_rfl) (by kernel_rfl) (by kernel_rfl) (by kernel_rfl) (by kernel_rfl) (fun _ _ _ h => h) (Or.inl ⟨by rfl, ?_⟩) (by assumption) ?_
        rotate_left
        · (intro wv hSw; (try dsimp only at hSw); obtain ⟨hcq, _⟩ := bcell hSw; have hsq := Below.size hSw; go_simp; try with_reducible rfl)
        try simp only [Act.put, List.setIfInBounds_toArray, List.set_cons_zero, List.set_cons_succ]
        refine wpAnyM_take (i := 7) (v := ?_) (by simp only [List.getElem?_toArray, List.getElem?_cons_succ, List.getElem?_cons_zero] <;> rfl) (by kernel_rfl) (by kernel_rfl) (by kernel_rfl) (by kernel_rfl) (by kernel_rfl) (fun _ _ _ h => h) (Or.inl ⟨by rfl, ?_⟩) (by assumption) ?_
        rotate_left
        · (intro wv hSw; (try dsimp only at hSw); obtain ⟨hcq, _⟩ := bcell hSw; have hsq := Below.size hSw; have p0 := (hcq _ _ el).trans e1; have pl := Nat.lt_of_lt_of_le el hsq; go_simp; try with_reducible rfl)
        try simp only [Act.put, List.setIfInBounds_toArray, List.set_cons_zero, List.set_cons_succ]
        refine wpAnyM_ready (rs := [3]) (by kernel_rfl) (by simp) ?_
        refine AllReadyM.cons rfl (fun K hK => ?_) AllReadyM.nil
        go_simp
        refine Calls.mono (K1.out _) ?_
        rintro e _ ⟨rfl, rfl⟩
        go_wp2_with fail
        refine hK.out _ _ hHeld (fun hHeld => ?_)
        clear hK K
        try simp only [Act.put, List.setIfInBounds_toArray, List.set_cons_zero, List.set_cons_succ]
        refine wpAnyM_take (i := 5) (v := ?_) (by simp only [List.getElem?_toArray, List.getElem?_cons_succ, List.getElem?_cons_zero] <;> rfl) (by kernel_rfl) (by kernel_rfl) (by kernel_rfl) (by kernel_rfl) (by kernel_rfl) (fun _ _ _ h => h) (Or.inl ⟨by rfl, ?_⟩) (by assumption) ?_
        rotate_left
        · (intro wv hSw; (try dsimp only at hSw); obtain ⟨hcq, _⟩ := bcell hSw; have hsq := Below.size hSw; go_simp; try with_reducible rfl)
        try simp only [Act.put, List.setIfInBounds_toArray, List.set_cons_zero, List.set_cons_succ]
        refine wpAnyM_ready (rs := [8]) (by kernel_rfl) (by simp) ?_
        refine AllReadyM.cons rfl (fun K hK => ?_) AllReadyM.nil
        go_simp
        refine Calls.mono (K2.out _) ?_
        rintro e _ ⟨rfl, rfl⟩
        go_wp2_with fail
        refine hK.out _ _ hHeld (fun hHeld => ?_)
        clear hK K
        try simp only [Act.put, List.setIfInBounds_toArray, List.set_cons_zero, List.set_cons_succ]
        refine wpAnyM_take (i := 9) (v := ?_) (by simp only [List.getElem?_toArray, List.getElem?_cons_succ, List.getElem?_cons_zero] <;> rfl) (by kernel_rfl) (by kernel_rfl) (by kernel_rfl) (by kernel_rfl) (by kernel_rfl) (fun _ _ _ h => h) (Or.inl ⟨by rfl, ?_⟩) (by assumption) ?_
        rotate_left
        · (intro wv hSw; (try dsimp only at hSw); obtain ⟨hcq, _⟩ := bcell hSw; have hsq := Below.size hSw; go_simp; try with_reducible rfl)
        try simp only [Act.put, List.setIfInBounds_toArray, List.set_cons_zero, List.set_cons_succ]
        refine wpAnyM_ready (rs := [10]) (by kernel_rfl) (by simp) ?_
        refine AllReadyM.cons rfl (fun K hK => ?_) AllReadyM.nil
        go_simp
        refine hK.out _ _ (show Below W1.heap.size W1 _ by repeat (first | exact Below.refl _ _ | assumption | refine below_allocS ?_ _ | refine below_callS ?_ (by assumption) | (refine Below.alloc ?_ (by first | omega | (simp; done) | (simp; omega)) _) | (refine Below.setCell ?_ (by first | omega | (simp; done) | (simp; omega)) _) | refine Below.drew ?_ | refine below_drewN ?_ _ | (refine below_call ?_ (by assumption) (by first | omega | (simp; done) | (simp; omega))) | (refine Below.trans ?_ (by assumption)))) (fun hHeld => ?_)
        clear hK K
        try simp only [Act.put, List.setIfInBounds_toArray, List.set_cons_zero, List.set_cons_succ]
        refine wpAnyM_ready (rs := [11]) (by kernel_rfl) (by simp) ?_
        refine AllReadyM.last rfl (fun K hK => ?_)
        refine wp_appAtL (k := 1) (m := 1) (enc := fun s : ByteArray => [Value.string s]) (ok := fun s => s.size ≤ maxLen) (cs := #[.string (d1 ++ ⟨#[33]⟩ ++ d2)]) _ _ rfl Tryz.underlying179 Tryz.infoStr rfl (by decide) (by decide) (fun y u hu => by simp at hu; subst hu; rfl) (w.heap.size + 1) _ j c' _ [ts] (O.out.keep (show Below wr.heap.size wr _ from below_callS hbW hHeld)) rfl W1.heap.size rfl (by exact (Blk.made W1.drew _ _)) (by rw [← HEV.out]; rfl) rfl (fun y hy => by simp at hy; subst hy; exact HTS.out) (by decide) (by omega) (by decide) (by have := Below.size hHeld; omega) ?_
        intro g' c2 w8 h1 h2 h3
        have O8 := Lib.hid h1
        have hb8 := (below_callS hbW hHeld)
        have X8 := Lib.hid ((X.out.keep hb8).keepB h2 (by omega))
        have HB8 := Lib.hid ((below_call HB.out hb8 (by omega)).trans (h2.mono (by omega)))
        have hs8 := h2.size
        have hs9 := hb8.size
        clear h1 h2 h3 hHeld hb8 O X HB
        refine hK.out _ _ ?_
        clear hK K
        try simp only [Act.put, List.setIfInBounds_toArray, List.set_cons_zero, List.set_cons_succ]
        refine wpAnyM_ready (rs := [12]) (by kernel_rfl) (by simp) ?_
        refine AllReadyM.then (by kernel_rfl) rfl (fun K hK => ?_)
        go_simp
        refine hK.out _ _ ?_
        clear hK K
        try simp only [Act.put, List.setIfInBounds_toArray, List.set_cons_zero, List.set_cons_succ]
        refine wpAnyM_done (by kernel_rfl) ?_ _
        refine NoPanic.normal ?_
        go_wp2
        go_roundw
        case rel => exact ⟨j + 1, c2, _, by go_num, by go_num, by omega, by omega, HB8, X8, Lib.hid (by rw [HM.out]; exact O8.out)⟩
        case measure => simp [intOf]; omega
      · go_wp2_with fail
        obtain ⟨W1, hW1⟩ : ∃ W1 : World, W1 = wr.alloc (.cells #[.int .i64 (q1 : Int), .int .i64 (q2 : Int), .bool true] 142) := ⟨_, rfl⟩
        have hbW : Below wr.heap.size wr W1 := by rw [hW1]; repeat (first | exact Below.refl _ _ | assumption | refine below_allocS ?_ _ | refine below_callS ?_ (by assumption) | (refine Below.alloc ?_ (by first | omega | (simp; done) | (simp; omega)) _) | (refine Below.setCell ?_ (by first | omega | (simp; done) | (simp; omega)) _) | refine Below.drew ?_ | refine below_drewN ?_ _ | (refine below_call ?_ (by assumption) (by first | omega | (simp; done) | (simp; omega))) | (refine Below.trans ?_ (by assumption)))
        have E : Blk W1 wr.heap.size #[.int .i64 (q1 : Int), .int .i64 (q2 : Int), .bool true] 142 := by rw [hW1]; exact Blk.made _ _ _
        have e0 := E.cell 0
        have e1 := E.cell 1
        have el := E.lt
        have HE1 := Lib.hid E
        simp at e0 e1
        rw [← hW1]
        have hsW : wr.heap.size + 1 = W1.heap.size := by rw [hW1]; simp
        clear hW1 E c0 c1 c2
        refine wp_region_noPanic ?_
        refine wp_region_M (L := 11) (S := fun wx => Below W1.heap.size W1 wx) (by kernel_rfl) ?_ (fun hHeld => ?_)
        · exact (Below.refl _ _).drew
        refine wpAnyM_take (i := 0) (v := ?_) (by simp only [List.getElem?_toArray, List.getElem?_cons_succ, List.getElem?_cons_zero] <;> rfl) (by kernel_rfl) (by kernel_rfl) (by kernel_rfl) (by kernel_rfl) (by kernel_rfl) (fun _ _ _ h => h) (Or.inl ⟨by rfl, ?_⟩) (by assumption) ?_
        rotate_left
        · (intro wv hSw; (try dsimp only at hSw); obtain ⟨hcq, _⟩ := bcell hSw; have hsq := Below.size hSw; go_simp; try with_reducible rfl)
        try simp only [Act.put, List.setIfInBounds_toArray, List.set_cons_zero, List.set_cons_succ]
        refine wpAnyM_take (i := 1) (v := ?_) (by simp only [List.getElem?_toArray, List.getElem?_cons_succ, List.getElem?_cons_zero] <;> rfl) (by kernel_rfl) (by kernel_rfl) (by kernel_rfl) (by kernel_rfl) (by kernel_rfl) (fun _ _ _ h => h) (Or.inl ⟨by rfl, ?_⟩) (by assumption) ?_
        rotate_left
        · (intro wv hSw; (try dsimp only at hSw); obtain ⟨hcq, _⟩ := bcell hSw; have hsq := Below.size hSw; go_simp; try with_reducible rfl)
        try simp only [Act.put, List.setIfInBounds_toArray, List.set_cons_zero, List.set_cons_succ]
        refine wpAnyM_take (i := 2) (v := ?_) (by simp only [List.getElem?_toArray, List.getElem?_cons_succ, List.getElem?_cons_zero] <;> rfl) (by kernel_rfl) (by kernel_rfl) (by kernel_rfl) (by kernel_rfl) (by kernel_rfl) (fun _ _ _ h => h) (Or.inl ⟨by rfl, ?_⟩) (by assumption) ?_
        rotate_left
        · (intro wv hSw; (try dsimp only at hSw); obtain ⟨hcq, _⟩ := bcell hSw; have hsq := Below.size hSw; have p0 := (hcq _ _ el).trans e0; have pl := Nat.lt_of_lt_of_le el hsq; go_simp; try with_reducible rfl)
        try simp only [Act.put, List.setIfInBounds_toArray, List.set_cons_zero, List.set_cons_succ]
        refine wpAnyM_take (i := 4) (v := ?_) (by simp only [List.getElem?_toArray, List.getElem?_cons_succ, List.getElem?_cons_zero] <;> rfl) (by kernel_rfl) (by kernel_rfl) (by kernel_rfl) (by kernel_rfl) (by kernel_rfl) (fun _ _ _ h => h) (Or.inl ⟨by rfl, ?_⟩) (by assumption) ?_
        rotate_left
        · (intro wv hSw; (try dsimp only at hSw); obtain ⟨hcq, _⟩ := bcell hSw; have hsq := Below.size hSw; go_simp; try with_reducible rfl)
        try simp only [Act.put, List.setIfInBounds_toArray, List.set_cons_zero, List.set_cons_succ]
        refine wpAnyM_take (i := 6) (v := ?_) (by simp only [List.getElem?_toArray, List.getElem?_cons_succ, List.getElem?_cons_zero] <;> rfl) (by kernel_rfl) (by kernel_rfl) (by kernel_rfl) (by kernel_rfl) (by kernel_rfl) (fun _ _ _ h => h) (Or.inl ⟨by rfl, ?_⟩) (by assumption) ?_
        rotate_left
        · (intro wv hSw; (try dsimp only at hSw); obtain ⟨hcq, _⟩ := bcell hSw; have hsq := Below.size hSw; go_simp; try with_reducible rfl)
        try simp only [Act.put, List.setIfInBounds_toArray, List.set_cons_zero, List.set_cons_succ]
        refine wpAnyM_take (i := 7) (v := ?_) (by simp only [List.getElem?_toArray, List.getElem?_cons_succ, List.getElem?_cons_zero] <;> rfl) (by kernel_rfl) (by kernel_rfl) (by kernel_rfl) (by kernel_rfl) (by kernel_rfl) (fun _ _ _ h => h) (Or.inl ⟨by rfl, ?_⟩) (by assumption) ?_
        rotate_left
        · (intro wv hSw; (try dsimp only at hSw); obtain ⟨hcq, _⟩ := bcell hSw; have hsq := Below.size hSw; have p0 := (hcq _ _ el).trans e1; have pl := Nat.lt_of_lt_of_le el hsq; go_simp; try with_reducible rfl)
        try simp only [Act.put, List.setIfInBounds_toArray, List.set_cons_zero, List.set_cons_succ]
        refine wpAnyM_ready (rs := [3]) (by kernel_rfl) (by simp) ?_
        refine AllReadyM.cons rfl (fun K hK => ?_) AllReadyM.nil
        go_simp
        refine Calls.mono (K1.out _) ?_
        rintro e _ ⟨rfl, rfl⟩
        go_wp2_with fail
        refine hK.out _ _ hHeld (fun hHeld => ?_)
        clear hK K
        try simp only [Act.put, List.setIfInBounds_toArray, List.set_cons_zero, List.set_cons_succ]
        refine wpAnyM_take (i := 5) (v := ?_) (by simp only [List.getElem?_toArray, List.getElem?_cons_succ, List.getElem?_cons_zero] <;> rfl) (by kernel_rfl) (by kernel_rfl) (by kernel_rfl) (by kernel_rfl) (by kernel_rfl) (fun _ _ _ h => h) (Or.inl ⟨by rfl, ?_⟩) (by assumption) ?_
        rotate_left
        · (intro wv hSw; (try dsimp only at hSw); obtain ⟨hcq, _⟩ := bcell hSw; have hsq := Below.size hSw; go_simp; try with_reducible rfl)
        try simp only [Act.put, List.setIfInBounds_toArray, List.set_cons_zero, List.set_cons_succ]
        refine wpAnyM_ready (rs := [8]) (by kernel_rfl) (by simp) ?_
        refine AllReadyM.cons rfl (fun K hK => ?_) AllReadyM.nil
        go_simp
        refine Calls.mono (K2.out _) ?_
        rintro e _ ⟨rfl, rfl⟩
        go_wp2_with fail
        refine hK.out _ _ hHeld (fun hHeld => ?_)
        clear hK K
        try simp only [Act.put, List.setIfInBounds_toArray, List.set_cons_zero, List.set_cons_succ]
        refine wpAnyM_take (i := 9) (v := ?_) (by simp only [List.getElem?_toArray, List.getElem?_cons_succ, List.getElem?_cons_zero] <;> rfl) (by kernel_rfl) (by kernel_rfl) (by kernel_rfl) (by kernel_rfl) (by kernel_rfl) (fun _ _ _ h => h) (Or.inl ⟨by rfl, ?_⟩) (by assumption) ?_
        rotate_left
        · (intro wv hSw; (try dsimp only at hSw); obtain ⟨hcq, _⟩ := bcell hSw; have hsq := Below.size hSw; go_simp; try with_reducible rfl)
        try simp only [Act.put, List.setIfInBounds_toArray, List.set_cons_zero, List.set_cons_succ]
        refine wpAnyM_ready (rs := [10]) (by kernel_rfl) (by simp) ?_
        refine AllReadyM.cons rfl (fun K hK => ?_) AllReadyM.nil
        go_simp
        refine hK.out _ _ (show Below W1.heap.size W1 _ by repeat (first | exact Below.refl _ _ | assumption | refine below_allocS ?_ _ | refine below_callS ?_ (by assumption) | (refine Below.alloc ?_ (by first | omega | (simp; done) | (simp; omega)) _) | (refine Below.setCell ?_ (by first | omega | (simp; done) | (simp; omega)) _) | refine Below.drew ?_ | refine below_drewN ?_ _ | (refine below_call ?_ (by assumption) (by first | omega | (simp; done) | (simp; omega))) | (refine Below.trans ?_ (by assumption)))) (fun hHeld => ?_)
        clear hK K
        try simp only [Act.put, List.setIfInBounds_toArray, List.set_cons_zero, List.set_cons_succ]
        refine wpAnyM_ready (rs := [11]) (by kernel_rfl) (by simp) ?_
        refine AllReadyM.last rfl (fun K hK => ?_)
        refine wp_appAtL (k := 1) (m := 1) (enc := fun s : ByteArray => [Value.string s]) (ok := fun s => s.size ≤ maxLen) (cs := #[.string (d1 ++ ⟨#[61]⟩ ++ d2)]) _ _ rfl Tryz.underlying179 Tryz.infoStr rfl (by decide) (by decide) (fun y u hu => by simp at hu; subst hu; rfl) (w.heap.size + 1) _ j c' _ [ts] (O.out.keep (show Below wr.heap.size wr _ from below_callS hbW hHeld)) rfl W1.heap.size rfl (by exact (Blk.made W1.drew _ _)) (by rw [← HEV.out]; rfl) rfl (fun y hy => by simp at hy; subst hy; exact HTS.out) (by decide) (by omega) (by decide) (by have := Below.size hHeld; omega) ?_
        intro g' c2 w8 h1 h2 h3
        have O8 := Lib.hid h1
        have hb8 := (below_callS hbW hHeld)
        have X8 := Lib.hid ((X.out.keep hb8).keepB h2 (by omega))
        have HB8 := Lib.hid ((below_call HB.out hb8 (by omega)).trans (h2.mono (by omega)))
        have hs8 := h2.size
        have hs9 := hb8.size
        clear h1 h2 h3 hHeld hb8 O X HB
        refine hK.out _ _ ?_
        clear hK K
        try simp only [Act.put, List.setIfInBounds_toArray, List.set_cons_zero, List.set_cons_succ]
        refine wpAnyM_ready (rs := [12]) (by kernel_rfl) (by simp) ?_
        refine AllReadyM.then (by kernel_rfl) rfl (fun K hK => ?_)
        go_simp
        refine hK.out _ _ ?_
        clear hK K
        try simp only [Act.put, List.setIfInBounds_toArray, List.set_cons_zero, List.set_cons_succ]
        refine wpAnyM_done (by kernel_rfl) ?_ _
        refine NoPanic.normal ?_
        go_wp2
        go_roundw
        case rel => exact ⟨j + 1, c2, _, by go_num, by go_num, by omega, by omega, HB8, X8, Lib.hid (by rw [HM.out]; exact O8.out)⟩
        case measure => simp [intOf]; omega
    · obtain rfl : gn = j := by omega
      have hlt' : ¬ (gn : Int) < (gn : Int) := by omega
      have O1 := Lib.hid (show OwnS wr (w.heap.size + 1) a' gn c' ((g.map tT).map mkS) by
        have h := O.out
        rw [List.take_of_length_le (by rw [List.length_map, HG.out.len]; exact Nat.le_refl _)] at h
        exact h)
      obtain ⟨w2, hw2⟩ : ∃ w2, w2 = wr := ⟨_, rfl⟩
      have x2 := X.out.cell 2
      have xl := X.out.lt
      simp at x2
      clear O
      go_wp2_with fail
      clear x2 xl
      rw [← hw2] at O1 HB X hsr
      go_loopw [4, 35] (fun s4 s35 wr => ∃ (j c' : Nat) (a' : Option Addr), s4 = .slice a' j c' ∧ s35 = .int .i64 j ∧ j ≤ en ∧ w2.heap.size ≤ wr.heap.size ∧ Hid (Below w2.heap.size w2 wr) ∧ Hid (OwnS wr w2.heap.size a' j c' (((e.map aT).take j).map mkS))) (fun _ s35 _ => en - (intOf s35).toNat)
      case atStart => exact ⟨0, 0, none, rfl, rfl, by omega, by rw [hw2]; exact Nat.le_refl _, Lib.hid (by rw [hw2]; exact Below.refl _ _), Lib.hid (OwnS.nil _ _)⟩
      case round =>
        clear hw2
        have HB0 := HB
        have X0 := X
        clear HB X
        obtain ⟨j, c', a', rfl, rfl, hj2, hsr2, HB, O⟩ := hrel
        by_cases hlt2 : j < en
        · have hlt2' : (j : Int) < (en : Int) := by omega
          have hj20 : (0 : Int) ≤ (j : Int) := by omega
          obtain ⟨b, off, x, rfl, hb, hx, hwf, c0, c1⟩ := F2.get ((HE.out.keep HB0.out).keep HB.out) hlt2
          have hxv := HR.out.e x (List.mem_of_getElem? hx)
          have hM : (e.map aT)[j]? = some (aT x) := by rw [List.getElem?_map, hx]; rfl
          have HM := Lib.hid (map_snoc9 mkS hM)
          have hts := aT_len hxv.2.1 hxv.2.2.2
          obtain ⟨xa, xb⟩ := x
          simp only at hxv c0 c1
          obtain ⟨q1, rfl⟩ := Int.eq_ofNat_of_zero_le hxv.1
          obtain ⟨q2, rfl⟩ := Int.eq_ofNat_of_zero_le hxv.2.2.1
          have hq1 : q1 < 33 := by omega
          have hq2 : q2 < 33 := by omega
          have hd1 : (mkS (Lib.decDigits q1)).size ≤ 2 := by have := dd_len (x := (q1 : Int)) (by omega); rw [dd, Int.toNat_natCast] at this; exact this
          have hd2 : (mkS (Lib.decDigits q2)).size ≤ 2 := by have := dd_len (x := (q2 : Int)) (by omega); rw [dd, Int.toNat_natCast] at this; exact this
          have HEV := Lib.hid (show mkS (Lib.decDigits q1) ++ mkS [58] ++ mkS (Lib.decDigits q2) = mkS (aT ⟨(q1 : Int), (q2 : Int)⟩) by
            rw [mkS_app, mkS_app, aT, dd, dd, Int.toNat_natCast, Int.toNat_natCast])
          have K1 := Lib.hid (fun (wx : World) => impl_decimal2 (w := wx) hq1)
          have K2 := Lib.hid (fun (wx : World) => impl_decimal2 (w := wx) hq2)
          have hts' : (mkS (aT ⟨(q1 : Int), (q2 : Int)⟩)).size ≤ maxLen := by rw [mkS_size]; unfold maxLen; omega
          have HTS := Lib.hid hts'
          generalize mkS (aT ⟨(q1 : Int), (q2 : Int)⟩) = ts at *
          generalize mkS (Lib.decDigits q1) = d1 at *
          generalize mkS (Lib.decDigits q2) = d2 at *
          have f1 : ¬ 9223372036854775807 < d1.size + 1 := by omega
          have f2 : ¬ 9223372036854775807 < d1.size + 1 + d2.size := by omega
          clear hx hwf hxv hM hts hts'
          go_wp2_with fail
          obtain ⟨W1, hW1⟩ : ∃ W1 : World, W1 = wr.alloc (.cells #[.int .i64 (q1 : Int), .int .i64 (q2 : Int)] 123) := ⟨_, rfl⟩
          have hbW : Below wr.heap.size wr W1 := by rw [hW1]; repeat (first | exact Below.refl _ _ | assumption | refine below_allocS ?_ _ | refine below_callS ?_ (by assumption) | (refine Below.alloc ?_ (by first | omega | (simp; done) | (simp; omega)) _) | (refine Below.setCell ?_ (by first | omega | (simp; done) | (simp; omega)) _) | refine Below.drew ?_ | refine below_drewN ?_ _ | (refine below_call ?_ (by assumption) (by first | omega | (simp; done) | (simp; omega))) | (refine Below.trans ?_ (by assumption)))
          have E : Blk W1 wr.heap.size #[.int .i64 (q1 : Int), .int .i64 (q2 : Int)] 123 := by rw [hW1]; exact Blk.made _ _ _
          have e0 := E.cell 0
          have e1 := E.cell 1
          have el := E.lt
          have HE1 := Lib.hid E
          simp at e0 e1
          rw [← hW1]
          have hsW : wr.heap.size + 1 = W1.heap.size := by rw [hW1]; simp
          clear hW1 E c0 c1
          refine wp_region_noPanic ?_
          refine wp_region_M (L := 10) (S := fun wx => Below W1.heap.size W1 wx) (by kernel_rfl) ?_ (fun hHeld => ?_)
          · exact (Below.refl _ _).drew
          refine wpAnyM_take (i := 0) (v := ?_) (by simp only [List.getElem?_toArray, List.getElem?_cons_succ, List.getElem?_cons_zero] <;> rfl) (by kernel_rfl) (by kernel_rfl) (by kernel_rfl) (by kernel_rfl) (by kernel_rfl) (fun _ _ _ h => h) (Or.inl ⟨by rfl, ?_⟩) (by assumption) ?_
          rotate_left
          · (intro wv hSw; (try dsimp only at hSw); obtain ⟨hcq, _⟩ := bcell hSw; have hsq := Below.size hSw; go_simp; try with_reducible rfl)
          try simp only [Act.put, List.setIfInBounds_toArray, List.set_cons_zero, List.set_cons_succ]
          refine wpAnyM_take (i := 1) (v := ?_) (by simp only [List.getElem?_toArray, List.getElem?_cons_succ, List.getElem?_cons_zero] <;> rfl) (by kernel_rfl) (by kernel_rfl) (by kernel_rfl) (by kernel_rfl) (by kernel_rfl) (fun _ _ _ h => h) (Or.inl ⟨by rfl, ?_⟩) (by assumption) ?_
          rotate_left
          · (intro wv hSw; (try dsimp only at hSw); obtain ⟨hcq, _⟩ := bcell hSw; have hsq := Below.size hSw; go_simp; try with_reducible rfl)
          try simp only [Act.put, List.setIfInBounds_toArray, List.set_cons_zero, List.set_cons_succ]
          refine wpAnyM_take (i := 2) (v := ?_) (by simp only [List.getElem?_toArray, List.getElem?_cons_succ, List.getElem?_cons_zero] <;> rfl) (by kernel_rfl) (by kernel_rfl) (by kernel_rfl) (by kernel_rfl) (by kernel_rfl) (fun _ _ _ h => h) (Or.inl ⟨by rfl, ?_⟩) (by assumption) ?_
          rotate_left
          · (intro wv hSw; (try dsimp only at hSw); obtain ⟨hcq, _⟩ := bcell hSw; have hsq := Below.size hSw; have p0 := (hcq _ _ el).trans e0; have pl := Nat.lt_of_lt_of_le el hsq; go_simp; try with_reducible rfl)
          try simp only [Act.put, List.setIfInBounds_toArray, List.set_cons_zero, List.set_cons_succ]
          refine wpAnyM_take (i := 5) (v := ?_) (by simp only [List.getElem?_toArray, List.getElem?_cons_succ, List.getElem?_cons_zero] <;> rfl) (by kernel_rfl) (by kernel_rfl) (by kernel_rfl) (by kernel_rfl) (by kernel_rfl) (fun _ _ _ h => h) (Or.inl ⟨by rfl, ?_⟩) (by assumption) ?_
          rotate_left
          · (intro wv hSw; (try dsimp only at hSw); obtain ⟨hcq, _⟩ := bcell hSw; have hsq := Below.size hSw; go_simp; try with_reducible rfl)
          try simp only [Act.put, List.setIfInBounds_toArray, List.set_cons_zero, List.set_cons_succ]
          refine wpAnyM_take (i := 6) (v := ?_) (by simp only [List.getElem?_toArray, List.getElem?_cons_succ, List.getElem?_cons_zero] <;> rfl) (by kernel_rfl) (by kernel_rfl) (by kernel_rfl) (by kernel_rfl) (by kernel_rfl) (fun _ _ _ h => h) (Or.inl ⟨by rfl, ?_⟩) (by assumption) ?_
          rotate_left
          · (intro wv hSw; (try dsimp only at hSw); obtain ⟨hcq, _⟩ := bcell hSw; have hsq := Below.size hSw; have p0 := (hcq _ _ el).trans e1; have pl := Nat.lt_of_lt_of_le el hsq; go_simp; try with_reducible rfl)
          try simp only [Act.put, List.setIfInBounds_toArray, List.set_cons_zero, List.set_cons_succ]
          refine wpAnyM_ready (rs := [3]) (by kernel_rfl) (by simp) ?_
          refine AllReadyM.cons rfl (fun K hK => ?_) AllReadyM.nil
          go_simp
          refine Calls.mono (K1.out _) ?_
          rintro e _ ⟨rfl, rfl⟩
          go_wp2_with fail
          refine hK.out _ _ hHeld (fun hHeld => ?_)
          clear hK K
          try simp only [Act.put, List.setIfInBounds_toArray, List.set_cons_zero, List.set_cons_succ]
          refine wpAnyM_take (i := 4) (v := ?_) (by simp only [List.getElem?_toArray, List.getElem?_cons_succ, List.getElem?_cons_zero] <;> rfl) (by kernel_rfl) (by kernel_rfl) (by kernel_rfl) (by kernel_rfl) (by kernel_rfl) (fun _ _ _ h => h) (Or.inl ⟨by rfl, ?_⟩) (by assumption) ?_
          rotate_left
          · (intro wv hSw; (try dsimp only at hSw); obtain ⟨hcq, _⟩ := bcell hSw; have hsq := Below.size hSw; go_simp; try with_reducible rfl)
          try simp only [Act.put, List.setIfInBounds_toArray, List.set_cons_zero, List.set_cons_succ]
          refine wpAnyM_ready (rs := [7]) (by kernel_rfl) (by simp) ?_
          refine AllReadyM.cons rfl (fun K hK => ?_) AllReadyM.nil
          go_simp
          refine Calls.mono (K2.out _) ?_
          rintro e _ ⟨rfl, rfl⟩
          go_wp2_with fail
          refine hK.out _ _ hHeld (fun hHeld => ?_)
          clear hK K
          try simp only [Act.put, List.setIfInBounds_toArray, List.set_cons_zero, List.set_cons_succ]
          refine wpAnyM_take (i := 8) (v := ?_) (by simp only [List.getElem?_toArray, List.getElem?_cons_succ, List.getElem?_cons_zero] <;> rfl) (by kernel_rfl) (by kernel_rfl) (by kernel_rfl) (by kernel_rfl) (by kernel_rfl) (fun _ _ _ h => h) (Or.inl ⟨by rfl, ?_⟩) (by assumption) ?_
          rotate_left
          · (intro wv hSw; (try dsimp only at hSw); obtain ⟨hcq, _⟩ := bcell hSw; have hsq := Below.size hSw; go_simp; try with_reducible rfl)
          try simp only [Act.put, List.setIfInBounds_toArray, List.set_cons_zero, List.set_cons_succ]
          refine wpAnyM_ready (rs := [9]) (by kernel_rfl) (by simp) ?_
          refine AllReadyM.cons rfl (fun K hK => ?_) AllReadyM.nil
          go_simp
          refine hK.out _ _ (show Below W1.heap.size W1 _ by repeat (first | exact Below.refl _ _ | assumption | refine below_allocS ?_ _ | refine below_callS ?_ (by assumption) | (refine Below.alloc ?_ (by first | omega | (simp; done) | (simp; omega)) _) | (refine Below.setCell ?_ (by first | omega | (simp; done) | (simp; omega)) _) | refine Below.drew ?_ | refine below_drewN ?_ _ | (refine below_call ?_ (by assumption) (by first | omega | (simp; done) | (simp; omega))) | (refine Below.trans ?_ (by assumption)))) (fun hHeld => ?_)
          clear hK K
          try simp only [Act.put, List.setIfInBounds_toArray, List.set_cons_zero, List.set_cons_succ]
          refine wpAnyM_ready (rs := [10]) (by kernel_rfl) (by simp) ?_
          refine AllReadyM.last rfl (fun K hK => ?_)
          refine wp_appAtL (k := 1) (m := 1) (enc := fun s : ByteArray => [Value.string s]) (ok := fun s => s.size ≤ maxLen) (cs := #[.string (d1 ++ ⟨#[58]⟩ ++ d2)]) _ _ rfl Tryz.underlying179 Tryz.infoStr rfl (by decide) (by decide) (fun y u hu => by simp at hu; subst hu; rfl) (w2.heap.size) _ j c' _ [ts] (O.out.keep (show Below wr.heap.size wr _ from below_callS hbW hHeld)) rfl W1.heap.size rfl (by exact (Blk.made W1.drew _ _)) (by rw [← HEV.out]; rfl) rfl (fun y hy => by simp at hy; subst hy; exact HTS.out) (by decide) (by omega) (by decide) (by have := Below.size hHeld; omega) ?_
          intro g' c2 w8 h1 h2 h3
          have O8 := Lib.hid h1
          have hb8 := (below_callS hbW hHeld)
          have HB8 := Lib.hid ((below_call HB.out hb8 (by omega)).trans (h2.mono (by omega)))
          have hs8 := h2.size
          have hs9 := hb8.size
          clear h1 h2 h3 hHeld hb8 O HB
          refine hK.out _ _ ?_
          clear hK K
          try simp only [Act.put, List.setIfInBounds_toArray, List.set_cons_zero, List.set_cons_succ]
          refine wpAnyM_ready (rs := [11]) (by kernel_rfl) (by simp) ?_
          refine AllReadyM.then (by kernel_rfl) rfl (fun K hK => ?_)
          go_simp
          refine hK.out _ _ ?_
          clear hK K
          try simp only [Act.put, List.setIfInBounds_toArray, List.set_cons_zero, List.set_cons_succ]
          refine wpAnyM_done (by kernel_rfl) ?_ _
          refine NoPanic.normal ?_
          go_wp2
          go_roundw
          case rel => exact ⟨j + 1, c2, _, by go_num, by go_num, by omega, by omega, HB8, Lib.hid (by rw [HM.out]; exact O8.out)⟩
          case measure => simp [intOf]; omega
        · obtain rfl : en = j := by omega
          have hlt2' : ¬ (en : Int) < (en : Int) := by omega
          have hO := O.out
          rw [List.take_of_length_le (by rw [List.length_map, HE.out.len]; exact Nat.le_refl _)] at hO
          have KL1 := Lib.hid (fun (wx : World) (hx : Below wr.heap.size wr wx) => impl_listText ((O1.out.keep HB.out).keep hx) (by omega) (fun y hy => by obtain ⟨t, ht, rfl⟩ := List.mem_map.1 hy; exact tT_len (HR.out.g t ht).2.1 (HR.out.g t ht).2.2.2))
          have KL2 := Lib.hid (fun (wx : World) (hx : Below wr.heap.size wr wx) => impl_listText (hO.keep hx) (by omega) (fun y hy => by obtain ⟨t, ht, rfl⟩ := List.mem_map.1 hy; exact aT_len (HR.out.e t ht).2.1 (HR.out.e t ht).2.2.2))
          have X := X0.out.keep HB.out
          have x0 := X.cell 0
          have xl := X.lt
          simp at x0
          have hg1 : (mkS (lT (g.map tT))).size ≤ 601 := HR.out.gT
          have hg2 : (mkS (lT (e.map aT))).size ≤ 601 := HR.out.eT
          have HEV := Lib.hid (show nm ++ mkS [32] ++ mkS (lT (g.map tT)) ++ mkS [32] ++ mkS (lT (e.map aT)) = mkS (rT ⟨nm, g, e⟩) by
            rw [show nm = mkS nm.data.toList from rfl, mkS_app, mkS_app, mkS_app, mkS_app]; rfl)
          have HBF := Lib.hid (below_call HB0.out HB.out (by omega))
          generalize mkS (lT (g.map tT)) = t1 at *
          generalize mkS (lT (e.map aT)) = t2 at *
          have f1 : ¬ 9223372036854775807 < nm.size + 1 := by omega
          have f2 : ¬ 9223372036854775807 < nm.size + 1 + t1.size := by omega
          have f3 : ¬ 9223372036854775807 < nm.size + 1 + t1.size + 1 := by omega
          have f4 : ¬ 9223372036854775807 < nm.size + 1 + t1.size + 1 + t2.size := by omega
          clear hO X O O1 HB
          go_wp2_with fail
          refine wp_region_noPanic ?_
          refine wp_region_M (L := 10) (S := fun wx => Below wr.heap.size wr wx) (by kernel_rfl) ?_ (fun hHeld => ?_)
          · exact (Below.refl _ _).drew
          refine wpAnyM_take (i := 0) (v := ?_) (by simp only [List.getElem?_toArray, List.getElem?_cons_succ, List.getElem?_cons_zero] <;> rfl) (by kernel_rfl) (by kernel_rfl) (by kernel_rfl) (by kernel_rfl) (by kernel_rfl) (fun _ _ _ h => h) (Or.inl ⟨by rfl, ?_⟩) (by assumption) ?_
          rotate_left
          · (intro wv hSw; (try dsimp only at hSw); obtain ⟨hcq, _⟩ := bcell hSw; have hsq := Below.size hSw; go_simp; try with_reducible rfl)
          try simp only [Act.put, List.setIfInBounds_toArray, List.set_cons_zero, List.set_cons_succ]
          refine wpAnyM_take (i := 1) (v := ?_) (by simp only [List.getElem?_toArray, List.getElem?_cons_succ, List.getElem?_cons_zero] <;> rfl) (by kernel_rfl) (by kernel_rfl) (by kernel_rfl) (by kernel_rfl) (by kernel_rfl) (fun _ _ _ h => h) (Or.inl ⟨by rfl, ?_⟩) (by assumption) ?_
          rotate_left
          · (intro wv hSw; (try dsimp only at hSw); obtain ⟨hcq, _⟩ := bcell hSw; have hsq := Below.size hSw; have p0 := (hcq _ _ xl).trans x0; have pl := Nat.lt_of_lt_of_le xl hsq; go_simp; try with_reducible rfl)
          try simp only [Act.put, List.setIfInBounds_toArray, List.set_cons_zero, List.set_cons_succ]
          refine wpAnyM_take (i := 2) (v := ?_) (by simp only [List.getElem?_toArray, List.getElem?_cons_succ, List.getElem?_cons_zero] <;> rfl) (by kernel_rfl) (by kernel_rfl) (by kernel_rfl) (by kernel_rfl) (by kernel_rfl) (fun _ _ _ h => h) (Or.inl ⟨by rfl, ?_⟩) (by assumption) ?_
          rotate_left
          · (intro wv hSw; (try dsimp only at hSw); obtain ⟨hcq, _⟩ := bcell hSw; have hsq := Below.size hSw; go_simp; try with_reducible rfl)
          try simp only [Act.put, List.setIfInBounds_toArray, List.set_cons_zero, List.set_cons_succ]
          refine wpAnyM_take (i := 3) (v := ?_) (by simp only [List.getElem?_toArray, List.getElem?_cons_succ, List.getElem?_cons_zero] <;> rfl) (by kernel_rfl) (by kernel_rfl) (by kernel_rfl) (by kernel_rfl) (by kernel_rfl) (fun _ _ _ h => h) (Or.inl ⟨by rfl, ?_⟩) (by assumption) ?_
          rotate_left
          · (intro wv hSw; (try dsimp only at hSw); obtain ⟨hcq, _⟩ := bcell hSw; have hsq := Below.size hSw; go_simp; try with_reducible rfl)
          try simp only [Act.put, List.setIfInBounds_toArray, List.set_cons_zero, List.set_cons_succ]
          refine wpAnyM_take (i := 7) (v := ?_) (by simp only [List.getElem?_toArray, List.getElem?_cons_succ, List.getElem?_cons_zero] <;> rfl) (by kernel_rfl) (by kernel_rfl) (by kernel_rfl) (by kernel_rfl) (by kernel_rfl) (fun _ _ _ h => h) (Or.inl ⟨by rfl, ?_⟩) (by assumption) ?_
          rotate_left
          · (intro wv hSw; (try dsimp only at hSw); obtain ⟨hcq, _⟩ := bcell hSw; have hsq := Below.size hSw; go_simp; try with_reducible rfl)
          try simp only [Act.put, List.setIfInBounds_toArray, List.set_cons_zero, List.set_cons_succ]
          refine wpAnyM_ready (rs := [4]) (by kernel_rfl) (by simp) ?_
          refine AllReadyM.cons rfl (fun K hK => ?_) AllReadyM.nil
          go_simp
          refine Calls.mono (KL1.out _ hHeld) ?_
          rintro ed w4 ⟨rfl, hb4⟩
          have hb5 := below_callS hHeld hb4
          go_wp2_with fail
          refine hK.out _ _ hb5 (fun hHeld => ?_)
          clear hK K
          try simp only [Act.put, List.setIfInBounds_toArray, List.set_cons_zero, List.set_cons_succ]
          refine wpAnyM_take (i := 5) (v := ?_) (by simp only [List.getElem?_toArray, List.getElem?_cons_succ, List.getElem?_cons_zero] <;> rfl) (by kernel_rfl) (by kernel_rfl) (by kernel_rfl) (by kernel_rfl) (by kernel_rfl) (fun _ _ _ h => h) (Or.inl ⟨by rfl, ?_⟩) (by assumption) ?_
          rotate_left
          · (intro wv hSw; (try dsimp only at hSw); obtain ⟨hcq, _⟩ := bcell hSw; have hsq := Below.size hSw; go_simp; try with_reducible rfl)
          try simp only [Act.put, List.setIfInBounds_toArray, List.set_cons_zero, List.set_cons_succ]
          refine wpAnyM_take (i := 6) (v := ?_) (by simp only [List.getElem?_toArray, List.getElem?_cons_succ, List.getElem?_cons_zero] <;> rfl) (by kernel_rfl) (by kernel_rfl) (by kernel_rfl) (by kernel_rfl) (by kernel_rfl) (fun _ _ _ h => h) (Or.inl ⟨by rfl, ?_⟩) (by assumption) ?_
          rotate_left
          · (intro wv hSw; (try dsimp only at hSw); obtain ⟨hcq, _⟩ := bcell hSw; have hsq := Below.size hSw; go_simp; try with_reducible rfl)
          try simp only [Act.put, List.setIfInBounds_toArray, List.set_cons_zero, List.set_cons_succ]
          refine wpAnyM_ready (rs := [8]) (by kernel_rfl) (by simp) ?_
          refine AllReadyM.cons rfl (fun K hK => ?_) AllReadyM.nil
          go_simp
          refine Calls.mono (KL2.out _ hHeld) ?_
          rintro ed w5 ⟨rfl, hb6⟩
          have hb7 := below_callS hHeld hb6
          go_wp2_with fail
          refine hK.out _ _ hb7 (fun hHeld => ?_)
          clear hK K
          try simp only [Act.put, List.setIfInBounds_toArray, List.set_cons_zero, List.set_cons_succ]
          refine wpAnyM_take (i := 9) (v := ?_) (by simp only [List.getElem?_toArray, List.getElem?_cons_succ, List.getElem?_cons_zero] <;> rfl) (by kernel_rfl) (by kernel_rfl) (by kernel_rfl) (by kernel_rfl) (by kernel_rfl) (fun _ _ _ h => h) (Or.inl ⟨by rfl, ?_⟩) (by assumption) ?_
          rotate_left
          · (intro wv hSw; (try dsimp only at hSw); obtain ⟨hcq, _⟩ := bcell hSw; have hsq := Below.size hSw; go_simp; try with_reducible rfl)
          try simp only [Act.put, List.setIfInBounds_toArray, List.set_cons_zero, List.set_cons_succ]
          refine wpAnyM_ready (rs := [10]) (by kernel_rfl) (by simp) ?_
          refine AllReadyM.last rfl (fun K hK => ?_)
          go_simp
          refine hK.out _ _ ?_
          clear hK K
          try simp only [Act.put, List.setIfInBounds_toArray, List.set_cons_zero, List.set_cons_succ]
          refine wpAnyM_done (by kernel_rfl) ?_ _
          refine NoPanic.normal ?_
          have hbe := below_call HBF.out hb7 (by have := HBF.out.size; omega)
          go_wp2
          go_ret
          exact ⟨by rw [← HEV.out]; rfl, hbe⟩
end Go.Proofs.YtfnamjkmkoldeaaGreatDoor
