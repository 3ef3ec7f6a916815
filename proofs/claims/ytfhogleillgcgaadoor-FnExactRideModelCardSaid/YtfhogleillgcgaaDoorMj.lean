/- Rules of the exact laws: marks. -/
import Derived.Test.YtfhogleillgcgaaDoorMi
import Derived.Test.YtfhogleillgcgaaDoorMt
namespace Go.Proofs.YtfhogleillgcgaaDoor
open Go.RowKit
set_option linter.unusedVariables false
set_option linter.unusedSimpArgs false
def cnt1 (r : RuD) : Nat := 1 + 3 * r.g.length + 2 * r.e.length
def cntR (rs : List RuD) : Nat := (rs.map cnt1).sum
def mark1 (q : Int) (r : RuD) : RuD := ⟨markT q, marks2b (q + 1) r.g.length, marks2 (q + 1 + 3 * (r.g.length : Nat)) r.e.length⟩
/-- the marks of a list of rules -/
def marksR : Int → List RuD → List RuD
  | _, [] => []
  | q, r :: rs => mark1 q r :: marksR (q + (cnt1 r : Nat)) rs
theorem marksR_len (q : Int) (rs : List RuD) : (marksR q rs).length = rs.length := by
  induction rs generalizing q with
  | nil => rfl
  | cons r rs ih => simp [marksR, ih]
theorem cntR_take {rs : List RuD} {k : Nat} {r : RuD} (h : rs[k]? = some r) : cntR (rs.take (k + 1)) = cntR (rs.take k) + cnt1 r := by
  rw [cntR, take_at h, List.map_append, List.sum_append]; simp [cntR]
theorem cntR_le {rs : List RuD} {k : Nat} {r : RuD} (h : rs[k]? = some r) : cntR (rs.take k) + cnt1 r ≤ cntR rs := by
  rw [← cntR_take h]
  have : cntR rs = cntR (rs.take (k + 1)) + cntR (rs.drop (k + 1)) := by
    rw [cntR, cntR, cntR, ← List.sum_append, ← List.map_append, List.take_append_drop]
  omega
theorem marksR_get {q : Int} {rs : List RuD} {k : Nat} {r : RuD} (h : rs[k]? = some r) : (marksR q rs)[k]? = some (mark1 (q + (cntR (rs.take k) : Nat)) r) := by
  induction rs generalizing q k with
  | nil => simp at h
  | cons x rs ih =>
    cases k with
    | zero => simp at h; subst h; simp [marksR, cntR]
    | succ k =>
      have := ih (q := q + (cnt1 x : Nat)) (k := k) (by simpa using h)
      rw [marksR, List.getElem?_cons_succ, this]
      congr 2
      simp [cntR]; omega
theorem mixR {q : Int} {rs : List RuD} {k : Nat} {r : RuD} {m : List RuD} (h : rs[k]? = some r) (hm : m = (marksR q rs).take k ++ rs.drop k) : m.set k (mark1 (q + (cntR (rs.take k) : Nat)) r) = (marksR q rs).take (k + 1) ++ rs.drop (k + 1) := by
  subst hm
  have hlt : k < rs.length := (List.getElem?_eq_some_iff.1 h).1
  have h1 : ((marksR q rs).take k).length = k := by rw [List.length_take, marksR_len]; omega
  rw [take_at (marksR_get h), List.set_append_right _ _ (by omega), h1, Nat.sub_self, show rs.drop k = rs[k] :: rs.drop (k + 1) from List.drop_eq_getElem_cons (by omega), List.set_cons_zero, List.append_assoc]
  rfl
theorem map_set2 {l : List (RM × RuD)} {i : Nat} {x : RM × RuD} : (l.set i x).map (·.2) = (l.map (·.2)).set i x.2 := List.map_set ..
/-- a slice of rules that is the call's own, by what it means -/
def MR (w : World) (lo hi : Nat) (a : Option Addr) (n c : Nat) (rs : List RuD) : Prop := ∃ l, ROwn w lo a n c l ∧ RBd lo hi a l ∧ l.map (·.2) = rs
theorem MR.keep {w w' : World} {lo hi : Nat} {a : Option Addr} {n c : Nat} {rs : List RuD} (h : MR w lo hi a n c rs) (hb : Below w.heap.size w w') : MR w' lo hi a n c rs := by
  obtain ⟨l, h1, h2, h3⟩ := h
  exact ⟨l, h1.keep hb, h2, h3⟩
theorem MR.here {lo hi : Nat} {a : Option Addr} {n c : Nat} {rs : List RuD} (w1 w2 : World) (hk : ∀ k, lo ≤ k → k < hi → w2.heap[k]? = w1.heap[k]?) (h : MR w1 lo hi a n c rs) : MR w2 lo hi a n c rs := by
  obtain ⟨l, h1, h2, h3⟩ := h
  exact ⟨l, ROwn.here h2 w1 w2 hk h1, h2, h3⟩
/-- a rule of the list, and the list with another rule there -/
theorem MR.at {w : World} {lo hi : Nat} {a : Option Addr} {n c : Nat} {rs : List RuD} (h : MR w lo hi a n c rs) {k : Nat} (hk : k < n) : ∃ (g : Nat) (R : RM) (r : RuD) (l : List (RM × RuD)), a = some ⟨g, 0, none⟩ ∧ rs[k]? = some r ∧ l[k]? = some (R, r) ∧ ROwn w lo a n c l ∧ RBd lo hi a l ∧ l.map (·.2) = rs ∧ RO w lo (R, r) ∧ g < w.heap.size ∧ lo ≤ g ∧ g < hi ∧
    w.cell? ⟨g, k * 3, none⟩ = some (.string R.nm) ∧ w.cell? ⟨g, k * 3 + 1, none⟩ = some (.slice R.ga R.gn R.gc) ∧ w.cell? ⟨g, k * 3 + 2, none⟩ = some (.slice R.ea R.en R.ec) := by
  obtain ⟨l, h1, h2, h3⟩ := h
  obtain ⟨b, off, R, r, rfl, hb, hx, _, c0, c1, c2⟩ := FR.get h1.fr hk
  obtain ⟨g, hg⟩ := h1.row.shape (by omega)
  simp only [Option.some.injEq, Addr.mk.injEq, and_true] at hg
  obtain ⟨rfl, rfl⟩ := hg
  simp only [Nat.zero_add] at c0 c1 c2
  have hb2 := h2.1 b rfl
  exact ⟨b, R, r, l, rfl, by rw [← h3, List.getElem?_map, hx]; rfl, hx, h1, h2, h3, h1.each _ (List.mem_of_getElem? hx), hb, hb2.1, hb2.2, c0, c1, c2⟩
theorem ROwn.cells {w : World} {lo g : Nat} {n c : Nat} {l : List (RM × RuD)} (h : ROwn w lo (some ⟨g, 0, none⟩) n c l) {k : Nat} {R : RM} {r : RuD} (hx : l[k]? = some (R, r)) : g < w.heap.size ∧ w.cell? ⟨g, k * 3, none⟩ = some (.string R.nm) ∧ w.cell? ⟨g, k * 3 + 1, none⟩ = some (.slice R.ga R.gn R.gc) ∧ w.cell? ⟨g, k * 3 + 2, none⟩ = some (.slice R.ea R.en R.ec) := by
  have hk : k < n := by rw [← h.row.len]; exact (List.getElem?_eq_some_iff.1 hx).1
  obtain ⟨b, off, R', r', he, hb, hx', _, c0, c1, c2⟩ := FR.get h.fr hk
  simp only [Option.some.injEq, Addr.mk.injEq, and_true] at he
  obtain ⟨rfl, rfl⟩ := he
  rw [hx] at hx'
  simp only [Option.some.injEq, Prod.mk.injEq] at hx'
  obtain ⟨rfl, rfl⟩ := hx'
  simp only [Nat.zero_add] at c0 c1 c2
  exact ⟨hb, c0, c1, c2⟩
theorem set_at {α : Type} {l : List α} {k : Nat} {x y : α} (h : l[k]? = some y) : (l.set k x)[k]? = some x := by
  rw [List.getElem?_set, if_pos rfl, if_pos (List.getElem?_eq_some_iff.1 h).1]
theorem MR.len {w : World} {lo hi : Nat} {a : Option Addr} {n c : Nat} {rs : List RuD} (h : MR w lo hi a n c rs) : rs.length = n := by
  obtain ⟨l, h1, h2, h3⟩ := h
  rw [← h3, List.length_map]; exact h1.row.len
/-- every block of int64s stays as it was -/
def KeepI (w w' : World) : Prop := ∀ (b : Nat) (cur : Array Value), w.heap[b]? = some (.cells cur 2 (0, 0)) → w'.heap[b]? = some (.cells cur 2 (0, 0))
theorem KeepI.refl (w : World) : KeepI w w := fun _ _ h => h
theorem KeepI.trans {w w' w'' : World} (h : KeepI w w') (h' : KeepI w' w'') : KeepI w w'' := fun b cur hb => h' b cur (h b cur hb)
theorem KeepI.below {w w' : World} (h : Below w.heap.size w w') : KeepI w w' := fun b cur hb => by
  have hlt : b < w.heap.size := Nat.lt_of_not_le fun h => by rw [Array.getElem?_eq_none h] at hb; cases hb
  rw [h.block b hlt]; exact hb
theorem KeepI.grown {w w' : World} {g : Nat} {E : TypeId} (h : w.grownBy w' (some g)) (ht : ∃ cur, w.heap[g]? = some (.cells cur E (0, 0))) (hE : E ≠ 2) : KeepI w w' := fun b cur hb => by
  have hlt : b < w.heap.size := Nat.lt_of_not_le fun h => by rw [Array.getElem?_eq_none h] at hb; cases hb
  rw [h.block b hlt fun e => ?_]
  · exact hb
  · cases e
    obtain ⟨c2, h2⟩ := ht
    rw [hb] at h2
    simp at h2
    exact hE h2.2.symm
theorem KeepI.touch {w w' : World} {n : Nat} {a : Option Addr} {E : TypeId} (h : Touch w w' n a) (ht : ∀ {g : Nat}, a = some ⟨g, 0, none⟩ → ∃ cur, w.heap[g]? = some (.cells cur E (0, 0))) (hE : E ≠ 2) : KeepI w w' := by
  obtain ⟨r, hg, hr⟩ := h
  cases r with
  | none => exact KeepI.below ((Below.refl _ _).grown hg (Nat.le_refl _) (fun k e => by cases e))
  | some g => exact KeepI.grown hg (ht (hr g rfl).2) hE
theorem OwnI.keepK {w w' : World} {base : Nat} {a : Option Addr} {n c : Nat} {l : List Int} (h : OwnI 2 w base a n c l) (hk : KeepI w w') : OwnI 2 w' base a n c l := by
  obtain ⟨⟨hl, h2⟩, hw⟩ := h
  refine ⟨⟨hl, ?_⟩, hw⟩
  rcases h2 with h2 | ⟨g, cap, cur, he, hbs, hg, r⟩
  · exact .inl h2
  · exact .inr ⟨g, cap, cur, he, hbs, hk _ _ hg, r⟩
set_option maxHeartbeats 2000000 in
theorem laws_markRuleS {a : Option Addr} {n c lo hi N : Nat} {rs : List RuD} {q : Int} {w : World} (hR : MR w lo hi a n c rs) (hN : cntR rs = N) (hn : n ≤ 1048576) (hq0 : 0 ≤ q) (hq1 : q + N ≤ 1099511627776) :
    Calls Tryd.prog 73 #[.slice a n c, .int .i64 q] w fun e w' => e = .returned (.int .i64 (q + N)) ∧ Only lo hi w w' ∧ MR w' lo hi a n c (marksR q rs) ∧ KeepI w w' := by
  have HR := Lib.hid (show MR w lo hi a n c ((marksR q rs).take 0 ++ rs.drop 0) by simpa using hR)
  have HL := Lib.hid hR.len
  have HN := Lib.hid hN
  clear hR hN
  go_enter Tryd.func73, Tryd.ntmps73
  go_wp2_with fail
  go_loopw [1, 5] (fun s1 s5 wr => ∃ (k : Nat) (q2 : Int), k ≤ n ∧ s1 = .int .i64 q2 ∧ s5 = .int .i64 k ∧ 0 ≤ q2 ∧ q2 ≤ q + N ∧ Hid (q2 = q + (cntR (rs.take k) : Nat)) ∧ Hid (Only lo hi w wr) ∧ Hid (KeepI w wr) ∧ Hid (MR wr lo hi a n c ((marksR q rs).take k ++ rs.drop k))) (fun _ s5 _ => n - (intOf s5).toNat)
  case atStart => exact ⟨0, q, Nat.zero_le _, rfl, rfl, hq0, by omega, by simp [Lib.hid, cntR], Lib.hid (Only.refl _ _ _), Lib.hid (KeepI.refl _), HR⟩
  case round =>
    obtain ⟨k, q2, hk, rfl, rfl, hq20, hq21, HQ, HO, HK, HM⟩ := hrel
    clear HR
    by_cases hlt : k < n
    · have hlt' : (k : Int) < (n : Int) := by omega
      have hk0 : (0 : Int) ≤ (k : Int) := by omega
      obtain ⟨g, R, r, l, rfl, hr, hl, hown, hbd, hmap, hro, hg, hg0, hg1, c0, c1, c2⟩ := HM.out.at hlt
      have hr2 : rs[k]? = some r := by
        have h1 : ((marksR q rs).take k).length = k := by rw [List.length_take, marksR_len]; have := HL.out; omega
        rw [List.getElem?_append_right (by omega), h1, Nat.sub_self, List.getElem?_drop, Nat.add_zero] at hr
        exact hr
      have hcle := cntR_le hr2
      have hcN := HN.out
      have hq2v := HQ.out
      have hc1 : cnt1 r = 1 + 3 * r.g.length + 2 * r.e.length := rfl
      have hgl := hro.g.len
      have hel := hro.e.len
      simp only at hgl hel
      have hq22 : q2 + (1 + 3 * R.gn + 2 * R.en) ≤ q + N := by omega
      have hgn := hro.gn
      have hen := hro.en
      simp only at hgn hen
      have HX := Lib.hid (show l[k]? = some (R, r) ∧ ROwn wr lo (some ⟨g, 0, none⟩) n c l ∧ RBd lo hi (some ⟨g, 0, none⟩) l ∧ l.map (·.2) = (marksR q rs).take k ++ rs.drop k ∧ rs[k]? = some r ∧ r.g.length = R.gn ∧ r.e.length = R.en from ⟨hl, hown, hbd, hmap, hr2, hgl, hel⟩)
      have hms : (markT q2).size ≤ maxLen := by have := markT_size hq20; unfold maxLen; omega
      obtain ⟨S, hS⟩ : ∃ S, S = markT q2 := ⟨_, rfl⟩
      have hT := fun wx => laws_markText (k := q2) (w := wx) hq20 (by omega)
      rw [← hS] at hms
      simp only [← hS] at hT
      have HS := Lib.hid hS
      have HTX := Lib.hid hT
      clear hr hl hown hbd hmap hro hr2 hcle hcN hq2v hc1 hgl hel hS hT
      go_wp2_with fail
      refine Calls.mono (HTX.out _) ?_
      rintro e w1 ⟨rfl, hb1⟩
      have ho1 := HX.out.2.1.keep hb1
      have hc := ho1.cells HX.out.1
      have hg9 := hc.1
      replace c0 := hc.2.1
      replace c1 := hc.2.2.1
      replace c2 := hc.2.2.2
      have hfz := ho1.row.free
      have HA := Lib.hid (ho1.setNm HX.out.1 S hms)
      have HO1 := Lib.hid (HO.out.then hb1)
      have HK1 := Lib.hid ((HK.out.trans (KeepI.below hb1)).trans (KeepI.grown (set_grown g (k * 3) (.string S)) (ho1.row.typ rfl) (by decide)))
      clear hc ho1 hg hb1
      go_wp2_with fail
      obtain ⟨wB, hwB⟩ : ∃ wB : World, wB = w1.setCell ⟨g, k * 3, none⟩ (.string S) := ⟨_, rfl⟩
      rw [← hwB] at HA HK1 ⊢
      have HO2 := Lib.hid (show Only lo hi w wB by rw [hwB]; exact HO1.out.set ⟨hg0, hg1⟩ _ _)
      have hl2 := set_at (x := (({ R with nm := S } : RM), ({ r with nm := S } : RuD))) HX.out.1
      have HL2 := Lib.hid hl2
      clear hl2 hwB HO1 c0 c1 c2 hfz hg9
      refine Calls.mono (laws_markTestS (HA.out.each _ (List.mem_of_getElem? HL2.out)).g hgn (by omega) (by omega)) ?_
      rintro e w2 ⟨rfl, ht, hg'⟩
      have HB := Lib.hid (HA.out.setG HL2.out ht hg')
      have HO3 := Lib.hid (HO2.out.trans (ht.only ((bd_set (x := (({ R with nm := S } : RM), ({ r with nm := S } : RuD))) HX.out.1 rfl rfl HX.out.2.2.1).2 _ (List.mem_of_getElem? HL2.out)).1))
      have HK2 := Lib.hid (HK1.out.trans (KeepI.touch ht (HA.out.each _ (List.mem_of_getElem? HL2.out)).g.typ (by decide)))
      have HL3 := Lib.hid (set_at (x := (({ R with nm := S } : RM), ({ nm := S, g := marks2b (q2 + 1) R.gn, e := r.e } : RuD))) HL2.out)
      have hc := HB.out.cells HL3.out
      have hg9 := hc.1
      have c0 := hc.2.1
      have c1 := hc.2.2.1
      have c2 := hc.2.2.2
      clear hc ht hg' 
      go_wp2_with fail
      refine Calls.mono (laws_markAssignS (HB.out.each _ (List.mem_of_getElem? HL3.out)).e hen (by omega) (by omega)) ?_
      rintro e w3 ⟨rfl, ht, he'⟩
      have HC := Lib.hid (HB.out.setE HL3.out ht he')
      have HO4 := Lib.hid (HO3.out.trans (ht.only ((bd_set (x := (({ R with nm := S } : RM), ({ nm := S, g := marks2b (q2 + 1) R.gn, e := r.e } : RuD))) HL2.out rfl rfl (bd_set (x := (({ R with nm := S } : RM), ({ r with nm := S } : RuD))) HX.out.1 rfl rfl HX.out.2.2.1)).2 _ (List.mem_of_getElem? HL3.out)).2))
      have HK3 := Lib.hid (HK2.out.trans (KeepI.touch ht (HB.out.each _ (List.mem_of_getElem? HL3.out)).e.typ (by decide)))
      clear ht he' c0 c1 c2 hg9
      go_wp2_with fail
      go_roundw
      case rel =>
        refine ⟨k + 1, q2 + 1 + 3 * R.gn + 2 * R.en, by omega, rfl, by go_num, by omega, by omega, ?_, HO4, HK3, ?_⟩
        · obtain ⟨_, _, _, _, h5, h6, h7⟩ := HX.out
          refine Lib.hid ?_
          rw [cntR_take h5, HQ.out, cnt1, h6, h7]; omega
        · obtain ⟨h1, _, h3, h4, h5, h6, h7⟩ := HX.out
          refine Lib.hid ⟨_, HC.out, bd_set HL3.out rfl rfl (bd_set HL2.out rfl rfl (bd_set h1 rfl rfl h3)), ?_⟩
          rw [map_set2, map_set2, map_set2, List.set_set, List.set_set, ← mixR h5 h4, mark1, ← HQ.out, ← HS.out, h6, h7]
      case measure => simp [intOf]; omega
    · obtain rfl : n = k := by omega
      have hlt' : ¬ (n : Int) < (n : Int) := by omega
      have hv : q2 = q + N := by have h1 := HQ.out; have h2 := HN.out; rw [take_len HL.out, h2] at h1; exact h1
      subst hv
      go_wp2
      go_ret
      refine ⟨rfl, HO.out, ?_, HK.out⟩
      have h1 := HM.out
      rw [List.drop_of_length_le (by have := HL.out; omega), List.append_nil, List.take_of_length_le (by rw [marksR_len]; have := HL.out; omega)] at h1
      exact h1
end Go.Proofs.YtfhogleillgcgaaDoor
