/- The texts with which the exact laws mark strings, walked.; Rules of the exact laws: marks.; Rules of the exact laws: marks that are held.; Models of the exact laws: copies, comparisons, marks.; Valid models, walked: IsModel of the program. -/
import Derived.Test.YtkaikbaagajckaaGreatN01
import Derived.Laws.BytesArg
import Derived.Test.YtkaikbaagajckaaGreatN06
namespace Go.Proofs.YtkaikbaagajckaaGreat
open Go.RowKit
set_option linter.unusedVariables false
set_option linter.unusedSimpArgs false
/-- the digits of q ahead of t -/
def digT : Nat → Int → ByteArray → ByteArray
  | 0, _, t => t
  | f + 1, q, t => if 0 < q then digT f (q / 10) (strOfNums [48 + q % 10] ++ t) else t
def markT (k : Int) : ByteArray := if k ≤ 0 then ⟨#[109, 48]⟩ else ⟨#[109]⟩ ++ digT k.toNat k ⟨#[]⟩
theorem digT_size (f : Nat) (q : Int) (t : ByteArray) : (digT f q t).size ≤ f + t.size := by
  induction f generalizing q t with
  | zero => simp [digT]
  | succ f ih =>
    rw [digT]
    split
    · refine Nat.le_trans (ih _ _) ?_
      rw [ByteArray.size_append, show (strOfNums [48 + q % 10]).size = 1 from rfl]; omega
    · omega
theorem digT_done {f : Nat} {q : Int} {t : ByteArray} (h : q ≤ 0) : digT f q t = t := by
  cases f with
  | zero => rfl
  | succ f => rw [digT, if_neg (by omega)]
theorem digT_step {f : Nat} {q : Int} {t : ByteArray} (h : 0 < q) (hf : q ≤ f) : ∃ f' : Nat, q / 10 ≤ f' ∧ digT f q t = digT f' (q / 10) (strOfNums [48 + q % 10] ++ t) := by
  cases f with
  | zero => omega
  | succ f => exact ⟨f, by omega, by rw [digT, if_pos h]⟩
theorem markT_size {k : Int} (h0 : 0 ≤ k) : ((markT k).size : Int) ≤ k + 2 := by
  rw [markT]
  split
  · show (2 : Int) ≤ _; omega
  · rw [ByteArray.size_append]
    have := digT_size k.toNat k ⟨#[]⟩
    have e : (⟨#[]⟩ : ByteArray).size = 0 := rfl
    have e2 : (⟨#[109]⟩ : ByteArray).size = 1 := rfl
    omega
set_option maxHeartbeats 1000000 in
set_option maxRecDepth 20000 in
theorem laws_markText {k : Int} {w : World} (h0 : 0 ≤ k) (h1 : k ≤ 1099511627776) : Calls Tryz.prog 114 #[.int .i64 k] w fun e w' => e = .returned (.string (markT k)) ∧ Below w.heap.size w w' := by
  by_cases hk : k ≤ 0
  · have HT := Lib.hid (show markT k = ⟨#[109, 48]⟩ from if_pos hk)
    go_enter Tryz.func114, Tryz.ntmps114
    go_wp2
    go_ret
    exact ⟨by rw [HT.out]; rfl, Below.refl _ _⟩
  · have HT := Lib.hid (show markT k = ⟨#[109]⟩ ++ digT k.toNat k ⟨#[]⟩ from if_neg hk)
    go_enter Tryz.func114, Tryz.ntmps114
    go_wp2_with fail
    go_loopw [0, 3] (fun s0 s3 wr => ∃ (q : Int) (t : ByteArray) (f : Nat), s0 = .int .i64 q ∧ s3 = .string t ∧ 0 ≤ q ∧ (t.size : Int) + q ≤ 1099511627776 ∧ Below w.heap.size w wr ∧ Hid (q ≤ f ∧ digT f q t = digT k.toNat k ⟨#[]⟩)) (fun s0 _ _ => (intOf s0).toNat)
    case atStart => exact ⟨k, ⟨#[]⟩, k.toNat, rfl, rfl, h0, by show (0 : Int) + k ≤ _; omega, Below.refl _ _, by omega, rfl⟩
    case round =>
      obtain ⟨q, t, f, rfl, rfl, hq0, hq1, hbl, A⟩ := hrel
      have hsz := hbl.size
      by_cases hlt : 0 < q
      · have hd0 : 0 ≤ q % 10 := Int.emod_nonneg _ (by omega)
        have hd1 : q % 10 < 10 := Int.emod_lt_of_pos _ (by omega)
        have hcv := run_convert_bytes_arg (P := Tryz.prog) (wr.alloc (.cells #[.int .u8 (48 + q % 10)] 5)) 52 5 Tryz.underlying52 Tryz.underlying5 wr.heap.size 0 1 1 [48 + q % 10] rfl (by intro i hi; (obtain rfl : i = 0 := (by omega)); exact (Blk.made wr #[.int .u8 (48 + q % 10)] 5).cell 0) 9 Tryz.underlying9
        have hsz1 : (strOfNums [48 + q % 10]).size = 1 := rfl
        have HA := Lib.hid (digT_step (t := t) hlt A.out.1)
        have HA2 := Lib.hid A.out.2
        clear A
        generalize strOfNums [48 + q % 10] = S at hcv hsz1 HA
        have hts : t.size ≤ 1099511627776 := by omega
        go_wp2_with fail
        go_roundw
        case rel => 
          obtain ⟨f', h1, h2⟩ := HA.out
          exact ⟨q / 10, S ++ t, f', rfl, rfl, by omega, by rw [ByteArray.size_append, hsz1]; omega, bel, h1, by rw [← h2]; exact HA2.out⟩
        case measure => simp [intOf]; omega
      · have hlt' : q ≤ 0 := by omega
        have hts : t.size ≤ 1099511627776 := by omega
        have HA := Lib.hid (by have h := A.out.2; rw [digT_done hlt'] at h; exact h)
        clear A
        go_wp2
        go_ret
        exact ⟨by rw [HT.out, ← HA.out]; rfl, hbl⟩
def cnt1 (r : RuD) : Nat := 1 + 3 * r.g.length + 2 * r.e.length
def cntRu (rs : List RuD) : Nat := (rs.map cnt1).sum
def mark1 (q : Int) (r : RuD) : RuD := ⟨markT q, marks2b (q + 1) r.g.length, marks2 (q + 1 + 3 * (r.g.length : Nat)) r.e.length⟩
/-- the marks of a list of rules -/
def marksR : Int → List RuD → List RuD
  | _, [] => []
  | q, r :: rs => mark1 q r :: marksR (q + (cnt1 r : Nat)) rs
theorem marksR_len (q : Int) (rs : List RuD) : (marksR q rs).length = rs.length := by
  induction rs generalizing q with
  | nil => rfl
  | cons r rs ih => simp [marksR, ih]
theorem cntR_take {rs : List RuD} {k : Nat} {r : RuD} (h : rs[k]? = some r) : cntRu (rs.take (k + 1)) = cntRu (rs.take k) + cnt1 r := by
  rw [cntRu, take_at h, List.map_append, List.sum_append]; simp [cntRu]
theorem cntR_le {rs : List RuD} {k : Nat} {r : RuD} (h : rs[k]? = some r) : cntRu (rs.take k) + cnt1 r ≤ cntRu rs := by
  rw [← cntR_take h]
  have : cntRu rs = cntRu (rs.take (k + 1)) + cntRu (rs.drop (k + 1)) := by
    rw [cntRu, cntRu, cntRu, ← List.sum_append, ← List.map_append, List.take_append_drop]
  omega
theorem marksR_get {q : Int} {rs : List RuD} {k : Nat} {r : RuD} (h : rs[k]? = some r) : (marksR q rs)[k]? = some (mark1 (q + (cntRu (rs.take k) : Nat)) r) := by
  induction rs generalizing q k with
  | nil => simp at h
  | cons x rs ih =>
    cases k with
    | zero => simp at h; subst h; simp [marksR, cntRu]
    | succ k =>
      have := ih (q := q + (cnt1 x : Nat)) (k := k) (by simpa using h)
      rw [marksR, List.getElem?_cons_succ, this]
      congr 2
      simp [cntRu]; omega
theorem mixR {q : Int} {rs : List RuD} {k : Nat} {r : RuD} {m : List RuD} (h : rs[k]? = some r) (hm : m = (marksR q rs).take k ++ rs.drop k) : m.set k (mark1 (q + (cntRu (rs.take k) : Nat)) r) = (marksR q rs).take (k + 1) ++ rs.drop (k + 1) := by
  subst hm
  have hlt : k < rs.length := (List.getElem?_eq_some_iff.1 h).1
  have h1 : ((marksR q rs).take k).length = k := by rw [List.length_take, marksR_len]; omega
  rw [take_at (marksR_get h), List.set_append_right _ _ (by omega), h1, Nat.sub_self, show rs.drop k = rs[k] :: rs.drop (k + 1) from List.drop_eq_getElem_cons (by omega), List.set_cons_zero, List.append_assoc]
  rfl
theorem map_set2 {l : List (RM × RuD)} {i : Nat} {x : RM × RuD} : (l.set i x).map (·.2) = (l.map (·.2)).set i x.2 := List.map_set ..
/-- a slice of rules that is the call's own, by what it means -/
def MR (w : World) (lo hi : Nat) (a : Option Addr) (n c : Nat) (rs : List RuD) : Prop := ∃ l, ROwn w lo a n c l ∧ RBd lo hi a l ∧ l.map (·.2) = rs
theorem MR.keep {w w' : World} {lo hi : Nat} {a : Option Addr} {n c : Nat} {rs : List RuD} (h : MR w lo hi a n c rs) (hb : Below w.heap.size w w') : MR w' lo hi a n c rs := by
  obtain ⟨l, h1, h2, h3⟩ := h
  exact ⟨l, h1.keep hb, h2, h3⟩
theorem MR.here {lo hi : Nat} {a : Option Addr} {n c : Nat} {rs : List RuD} (w1 w2 : World) (hk : ∀ k, lo ≤ k → k < hi → w2.heap[k]? = w1.heap[k]?) (h : MR w1 lo hi a n c rs) : MR w2 lo hi a n c rs := by
  obtain ⟨l, h1, h2, h3⟩ := h
  exact ⟨l, ROwn.here h2 w1 w2 hk h1, h2, h3⟩
/-- a rule of the list, and the list with another rule there -/
theorem MR.at {w : World} {lo hi : Nat} {a : Option Addr} {n c : Nat} {rs : List RuD} (h : MR w lo hi a n c rs) {k : Nat} (hk : k < n) : ∃ (g : Nat) (R : RM) (r : RuD) (l : List (RM × RuD)), a = some ⟨g, 0, none⟩ ∧ rs[k]? = some r ∧ l[k]? = some (R, r) ∧ ROwn w lo a n c l ∧ RBd lo hi a l ∧ l.map (·.2) = rs ∧ RO w lo (R, r) ∧ g < w.heap.size ∧ lo ≤ g ∧ g < hi ∧
    w.cell? ⟨g, k * 3, none⟩ = some (.string R.nm) ∧ w.cell? ⟨g, k * 3 + 1, none⟩ = some (.slice R.ga R.gn R.gc) ∧ w.cell? ⟨g, k * 3 + 2, none⟩ = some (.slice R.ea R.en R.ec) := by
  obtain ⟨l, h1, h2, h3⟩ := h
  obtain ⟨b, off, R, r, rfl, hb, hx, _, c0, c1, c2⟩ := FR.get h1.fr hk
  obtain ⟨g, hg⟩ := h1.row.shape (by omega)
  simp only [Option.some.injEq, Addr.mk.injEq, and_true] at hg
  obtain ⟨rfl, rfl⟩ := hg
  simp only [Nat.zero_add] at c0 c1 c2
  have hb2 := h2.1 b rfl
  exact ⟨b, R, r, l, rfl, by rw [← h3, List.getElem?_map, hx]; rfl, hx, h1, h2, h3, h1.each _ (List.mem_of_getElem? hx), hb, hb2.1, hb2.2, c0, c1, c2⟩
theorem ROwn.cells {w : World} {lo g : Nat} {n c : Nat} {l : List (RM × RuD)} (h : ROwn w lo (some ⟨g, 0, none⟩) n c l) {k : Nat} {R : RM} {r : RuD} (hx : l[k]? = some (R, r)) : g < w.heap.size ∧ w.cell? ⟨g, k * 3, none⟩ = some (.string R.nm) ∧ w.cell? ⟨g, k * 3 + 1, none⟩ = some (.slice R.ga R.gn R.gc) ∧ w.cell? ⟨g, k * 3 + 2, none⟩ = some (.slice R.ea R.en R.ec) := by
  have hk : k < n := by rw [← h.row.len]; exact (List.getElem?_eq_some_iff.1 hx).1
  obtain ⟨b, off, R', r', he, hb, hx', _, c0, c1, c2⟩ := FR.get h.fr hk
  simp only [Option.some.injEq, Addr.mk.injEq, and_true] at he
  obtain ⟨rfl, rfl⟩ := he
  rw [hx] at hx'
  simp only [Option.some.injEq, Prod.mk.injEq] at hx'
  obtain ⟨rfl, rfl⟩ := hx'
  simp only [Nat.zero_add] at c0 c1 c2
  exact ⟨hb, c0, c1, c2⟩
theorem set_at {α : Type} {l : List α} {k : Nat} {x y : α} (h : l[k]? = some y) : (l.set k x)[k]? = some x := by
  rw [List.getElem?_set, if_pos rfl, if_pos (List.getElem?_eq_some_iff.1 h).1]
theorem MR.len {w : World} {lo hi : Nat} {a : Option Addr} {n c : Nat} {rs : List RuD} (h : MR w lo hi a n c rs) : rs.length = n := by
  obtain ⟨l, h1, h2, h3⟩ := h
  rw [← h3, List.length_map]; exact h1.row.len
/-- every block of int64s stays as it was -/
def KeepI (w w' : World) : Prop := ∀ (b : Nat) (cur : Array Value), w.heap[b]? = some (.cells cur 2 (0, 0)) → w'.heap[b]? = some (.cells cur 2 (0, 0))
theorem KeepI.refl (w : World) : KeepI w w := fun _ _ h => h
theorem KeepI.trans {w w' w'' : World} (h : KeepI w w') (h' : KeepI w' w'') : KeepI w w'' := fun b cur hb => h' b cur (h b cur hb)
theorem KeepI.below {w w' : World} (h : Below w.heap.size w w') : KeepI w w' := fun b cur hb => by
  have hlt : b < w.heap.size := Nat.lt_of_not_le fun h => by rw [Array.getElem?_eq_none h] at hb; cases hb
  rw [h.block b hlt]; exact hb
theorem KeepI.grown {w w' : World} {g : Nat} {E : TypeId} (h : w.grownBy w' (some g)) (ht : ∃ cur, w.heap[g]? = some (.cells cur E (0, 0))) (hE : E ≠ 2) : KeepI w w' := fun b cur hb => by
  have hlt : b < w.heap.size := Nat.lt_of_not_le fun h => by rw [Array.getElem?_eq_none h] at hb; cases hb
  rw [h.block b hlt fun e => ?_]
  · exact hb
  · cases e
    obtain ⟨c2, h2⟩ := ht
    rw [hb] at h2
    simp at h2
    exact hE h2.2.symm
theorem KeepI.touch {w w' : World} {n : Nat} {a : Option Addr} {E : TypeId} (h : Touch w w' n a) (ht : ∀ {g : Nat}, a = some ⟨g, 0, none⟩ → ∃ cur, w.heap[g]? = some (.cells cur E (0, 0))) (hE : E ≠ 2) : KeepI w w' := by
  obtain ⟨r, hg, hr⟩ := h
  cases r with
  | none => exact KeepI.below ((Below.refl _ _).grown hg (Nat.le_refl _) (fun k e => by cases e))
  | some g => exact KeepI.grown hg (ht (hr g rfl).2) hE
theorem OwnI.keepK {w w' : World} {base : Nat} {a : Option Addr} {n c : Nat} {l : List Int} (h : OwnI 2 w base a n c l) (hk : KeepI w w') : OwnI 2 w' base a n c l := by
  obtain ⟨⟨hl, h2⟩, hw⟩ := h
  refine ⟨⟨hl, ?_⟩, hw⟩
  rcases h2 with h2 | ⟨g, cap, cur, he, hbs, hg, r⟩
  · exact .inl h2
  · exact .inr ⟨g, cap, cur, he, hbs, hk _ _ hg, r⟩
set_option maxHeartbeats 2000000 in
theorem laws_markRuleS {a : Option Addr} {n c lo hi N : Nat} {rs : List RuD} {q : Int} {w : World} (hR : MR w lo hi a n c rs) (hN : cntRu rs = N) (hn : n ≤ 1048576) (hq0 : 0 ≤ q) (hq1 : q + N ≤ 1099511627776) :
    Calls Tryz.prog 58 #[.slice a n c, .int .i64 q] w fun e w' => e = .returned (.int .i64 (q + N)) ∧ Only lo hi w w' ∧ MR w' lo hi a n c (marksR q rs) ∧ KeepI w w' := by
  have HR := Lib.hid (show MR w lo hi a n c ((marksR q rs).take 0 ++ rs.drop 0) by simpa using hR)
  have HL := Lib.hid hR.len
  have HN := Lib.hid hN
  clear hR hN
  go_enter Tryz.func58, Tryz.ntmps58
  go_wp2_with fail
  go_loopw [1, 5] (fun s1 s5 wr => ∃ (k : Nat) (q2 : Int), k ≤ n ∧ s1 = .int .i64 q2 ∧ s5 = .int .i64 k ∧ 0 ≤ q2 ∧ q2 ≤ q + N ∧ Hid (q2 = q + (cntRu (rs.take k) : Nat)) ∧ Hid (Only lo hi w wr) ∧ Hid (KeepI w wr) ∧ Hid (MR wr lo hi a n c ((marksR q rs).take k ++ rs.drop k))) (fun _ s5 _ => n - (intOf s5).toNat)
  case atStart => exact ⟨0, q, Nat.zero_le _, rfl, rfl, hq0, by omega, by simp [Lib.hid, cntRu], Lib.hid (Only.refl _ _ _), Lib.hid (KeepI.refl _), HR⟩
  case round =>
    obtain ⟨k, q2, hk, rfl, rfl, hq20, hq21, HQ, HO, HK, HM⟩ := hrel
    clear HR
    by_cases hlt : k < n
    · have hlt' : (k : Int) < (n : Int) := by omega
      have hk0 : (0 : Int) ≤ (k : Int) := by omega
      obtain ⟨g, R, r, l, rfl, hr, hl, hown, hbd, hmap, hro, hg, hg0, hg1, c0, c1, c2⟩ := HM.out.at hlt
      have hr2 : rs[k]? = some r := by
        have h1 : ((marksR q rs).take k).length = k := by rw [List.length_take, marksR_len]; have := HL.out; omega
        rw [List.getElem?_append_right (by omega), h1, Nat.sub_self, List.getElem?_drop, Nat.add_zero] at hr
        exact hr
      have hcle := cntR_le hr2
      have hcN := HN.out
      have hq2v := HQ.out
      have hc1 : cnt1 r = 1 + 3 * r.g.length + 2 * r.e.length := rfl
      have hgl := hro.g.len
      have hel := hro.e.len
      simp only at hgl hel
      have hq22 : q2 + (1 + 3 * R.gn + 2 * R.en) ≤ q + N := by omega
      have hgn := hro.gn
      have hen := hro.en
      simp only at hgn hen
      have HX := Lib.hid (show l[k]? = some (R, r) ∧ ROwn wr lo (some ⟨g, 0, none⟩) n c l ∧ RBd lo hi (some ⟨g, 0, none⟩) l ∧ l.map (·.2) = (marksR q rs).take k ++ rs.drop k ∧ rs[k]? = some r ∧ r.g.length = R.gn ∧ r.e.length = R.en from ⟨hl, hown, hbd, hmap, hr2, hgl, hel⟩)
      have hms : (markT q2).size ≤ maxLen := by have := markT_size hq20; unfold maxLen; omega
      obtain ⟨S, hS⟩ : ∃ S, S = markT q2 := ⟨_, rfl⟩
      have hT := fun wx => laws_markText (k := q2) (w := wx) hq20 (by omega)
      rw [← hS] at hms
      simp only [← hS] at hT
      have HS := Lib.hid hS
      have HTX := Lib.hid hT
      clear hr hl hown hbd hmap hro hr2 hcle hcN hq2v hc1 hgl hel hS hT
      go_wp2_with fail
      refine Calls.mono (HTX.out _) ?_
      rintro e w1 ⟨rfl, hb1⟩
      have ho1 := HX.out.2.1.keep hb1
      have hc := ho1.cells HX.out.1
      have hg9 := hc.1
      replace c0 := hc.2.1
      replace c1 := hc.2.2.1
      replace c2 := hc.2.2.2
      have hfz := ho1.row.free
      have HA := Lib.hid (ho1.setNm HX.out.1 S hms)
      have HO1 := Lib.hid (HO.out.then hb1)
      have HK1 := Lib.hid ((HK.out.trans (KeepI.below hb1)).trans (KeepI.grown (set_grown g (k * 3) (.string S)) (ho1.row.typ rfl) (by decide)))
      clear hc ho1 hg hb1
      go_wp2_with fail
      obtain ⟨wB, hwB⟩ : ∃ wB : World, wB = w1.setCell ⟨g, k * 3, none⟩ (.string S) := ⟨_, rfl⟩
      rw [← hwB] at HA HK1 ⊢
      have HO2 := Lib.hid (show Only lo hi w wB by rw [hwB]; exact HO1.out.set ⟨hg0, hg1⟩ _ _)
      have hl2 := set_at (x := (({ R with nm := S } : RM), ({ r with nm := S } : RuD))) HX.out.1
      have HL2 := Lib.hid hl2
      clear hl2 hwB HO1 c0 c1 c2 hfz hg9
      refine Calls.mono (laws_markTestS (HA.out.each _ (List.mem_of_getElem? HL2.out)).g hgn (by omega) (by omega)) ?_
      rintro e w2 ⟨rfl, ht, hg'⟩
      have HB := Lib.hid (HA.out.setG HL2.out ht hg')
      have HO3 := Lib.hid (HO2.out.trans (ht.only ((bd_set (x := (({ R with nm := S } : RM), ({ r with nm := S } : RuD))) HX.out.1 rfl rfl HX.out.2.2.1).2 _ (List.mem_of_getElem? HL2.out)).1))
      have HK2 := Lib.hid (HK1.out.trans (KeepI.touch ht (HA.out.each _ (List.mem_of_getElem? HL2.out)).g.typ (by decide)))
      have HL3 := Lib.hid (set_at (x := (({ R with nm := S } : RM), ({ nm := S, g := marks2b (q2 + 1) R.gn, e := r.e } : RuD))) HL2.out)
      have hc := HB.out.cells HL3.out
      have hg9 := hc.1
      have c0 := hc.2.1
      have c1 := hc.2.2.1
      have c2 := hc.2.2.2
      clear hc ht hg' 
      go_wp2_with fail
      refine Calls.mono (laws_markAssignS (HB.out.each _ (List.mem_of_getElem? HL3.out)).e hen (by omega) (by omega)) ?_
      rintro e w3 ⟨rfl, ht, he'⟩
      have HC := Lib.hid (HB.out.setE HL3.out ht he')
      have HO4 := Lib.hid (HO3.out.trans (ht.only ((bd_set (x := (({ R with nm := S } : RM), ({ nm := S, g := marks2b (q2 + 1) R.gn, e := r.e } : RuD))) HL2.out rfl rfl (bd_set (x := (({ R with nm := S } : RM), ({ r with nm := S } : RuD))) HX.out.1 rfl rfl HX.out.2.2.1)).2 _ (List.mem_of_getElem? HL3.out)).2))
      have HK3 := Lib.hid (HK2.out.trans (KeepI.touch ht (HB.out.each _ (List.mem_of_getElem? HL3.out)).e.typ (by decide)))
      clear ht he' c0 c1 c2 hg9
      go_wp2_with fail
      go_roundw
      case rel =>
        refine ⟨k + 1, q2 + 1 + 3 * R.gn + 2 * R.en, by omega, rfl, by go_num, by omega, by omega, ?_, HO4, HK3, ?_⟩
        · obtain ⟨_, _, _, _, h5, h6, h7⟩ := HX.out
          refine Lib.hid ?_
          rw [cntR_take h5, HQ.out, cnt1, h6, h7]; omega
        · obtain ⟨h1, _, h3, h4, h5, h6, h7⟩ := HX.out
          refine Lib.hid ⟨_, HC.out, bd_set HL3.out rfl rfl (bd_set HL2.out rfl rfl (bd_set h1 rfl rfl h3)), ?_⟩
          rw [map_set2, map_set2, map_set2, List.set_set, List.set_set, ← mixR h5 h4, mark1, ← HQ.out, ← HS.out, h6, h7]
      case measure => simp [intOf]; omega
    · obtain rfl : n = k := by omega
      have hlt' : ¬ (n : Int) < (n : Int) := by omega
      have hv : q2 = q + N := by have h1 := HQ.out; have h2 := HN.out; rw [take_len HL.out, h2] at h1; exact h1
      subst hv
      go_wp2
      go_ret
      refine ⟨rfl, HO.out, ?_, HK.out⟩
      have h1 := HM.out
      rw [List.drop_of_length_le (by have := HL.out; omega), List.append_nil, List.take_of_length_le (by rw [marksR_len]; have := HL.out; omega)] at h1
      exact h1

theorem Blk.wr {w : World} {b : Nat} {cs : Array Value} {T : TypeId} (h : Blk w b cs T) (i : Nat) (v : Value) : Blk (w.setCell ⟨b, i, none⟩ v) b (cs.setIfInBounds i v) T := by
  exact heap_setCell_same w b i cs T v h
/-- a model that is read, by what it means -/
structure MRd (w : World) (sa : Option Addr) (sn sc : Nat) (ta : Option Addr) (tn tc : Nat) (ra : Option Addr) (rn rc : Nat) (sz st : List Int) (rs : List RuD) : Prop where
  s : Ints w sa sn sc sz
  t : Ints w ta tn tc st
  r : ∃ l, FR w w ra rn rc l ∧ l.map (·.2) = rs
  sn : sn ≤ 1048576
  tn : tn ≤ 1048576
  rn : rn ≤ 1048576
/-- a model of the call's own -/
structure MOwn (w : World) (lo hi : Nat) (sa : Option Addr) (sn sc : Nat) (ta : Option Addr) (tn tc : Nat) (ra : Option Addr) (rn rc : Nat) (sz st : List Int) (rs : List RuD) : Prop where
  s : OwnI 2 w lo sa sn sc sz
  t : OwnI 2 w lo ta tn tc st
  r : MR w lo hi ra rn rc rs
  ap : Apart sa ta
  bs : inI lo hi sa
  bt : inI lo hi ta
  sn : sn ≤ 1048576
  tn : tn ≤ 1048576
  rn : rn ≤ 1048576
theorem MR.fr {w : World} {lo hi : Nat} {a : Option Addr} {n c : Nat} {rs : List RuD} (h : MR w lo hi a n c rs) : ∃ l, FR w w a n c l ∧ l.map (·.2) = rs := by
  obtain ⟨l, h1, h2, h3⟩ := h
  exact ⟨l, h1.fr, h3⟩
theorem FR.keep {w0 w w' : World} {a : Option Addr} {n c : Nat} {l : List (RM × RuD)} (h : FR w0 w a n c l) (hb0 : Below w0.heap.size w0 w') (hb : Below w.heap.size w w') : FR w' w' a n c l := by
  have hf := Flats.keep h hb
  exact ⟨hf.len, hf.cap, hf.pos, fun x hx => (hf.wf x hx).keep hb0, hf.nil⟩
theorem MR.keepTI {w w' : World} {lo hi m : Nat} {a a' : Option Addr} {n c : Nat} {rs : List RuD} (h : MR w lo hi a n c rs) (ty : ∀ {g : Nat}, a' = some ⟨g, 0, none⟩ → ∃ cur, w.heap[g]? = some (.cells cur 2 (0, 0))) (ht : Touch w w' m a') : MR w' lo hi a n c rs := by
  obtain ⟨l, h1, h2, h3⟩ := h
  refine ⟨l, ⟨h1.row.keepT ht (typ_apart h1.row.typ ty (by decide)), fun x hx => ?_, h1.apart⟩, h2, h3⟩
  have hh := h1.each x hx
  exact ⟨hh.nm, hh.nms, hh.g.keepT ht (typ_apart hh.g.typ ty (by decide)), hh.gn, hh.e.keepT ht (typ_apart hh.e.typ ty (by decide)), hh.en⟩
section
variable {w w' : World} {lo hi : Nat} {sa : Option Addr} {sn sc : Nat} {ta : Option Addr} {tn tc : Nat} {ra : Option Addr} {rn rc : Nat} {sz st : List Int} {rs : List RuD}
theorem MRd.keep (h : MRd w sa sn sc ta tn tc ra rn rc sz st rs) (hb : Below w.heap.size w w') : MRd w' sa sn sc ta tn tc ra rn rc sz st rs := by
  obtain ⟨l, h1, h2⟩ := h.r
  exact ⟨h.s.keep hb, h.t.keep hb, ⟨l, h1.keep hb hb, h2⟩, h.sn, h.tn, h.rn⟩
theorem MOwn.rd (h : MOwn w lo hi sa sn sc ta tn tc ra rn rc sz st rs) : MRd w sa sn sc ta tn tc ra rn rc sz st rs := ⟨h.s.ints, h.t.ints, h.r.fr, h.sn, h.tn, h.rn⟩
theorem MOwn.keep (h : MOwn w lo hi sa sn sc ta tn tc ra rn rc sz st rs) (hb : Below w.heap.size w w') : MOwn w' lo hi sa sn sc ta tn tc ra rn rc sz st rs := ⟨h.s.keep hb, h.t.keep hb, h.r.keep hb, h.ap, h.bs, h.bt, h.sn, h.tn, h.rn⟩
theorem MOwn.here (w1 w2 : World) (hk : ∀ k, lo ≤ k → k < hi → w2.heap[k]? = w1.heap[k]?) (h : MOwn w1 lo hi sa sn sc ta tn tc ra rn rc sz st rs) : MOwn w2 lo hi sa sn sc ta tn tc ra rn rc sz st rs :=
  ⟨OwnI.here h.bs w1 w2 hk h.s, OwnI.here h.bt w1 w2 hk h.t, MR.here w1 w2 hk h.r, h.ap, h.bs, h.bt, h.sn, h.tn, h.rn⟩
theorem MOwn.own (h : MOwn w lo hi sa sn sc ta tn tc ra rn rc sz st rs) (hh : hi ≤ w.heap.size) : Own (fun w => MOwn w lo hi sa sn sc ta tn tc ra rn rc sz st rs) lo hi w := ⟨h, hh, MOwn.here⟩
end
set_option maxHeartbeats 2000000 in
theorem laws_toModel {sa : Option Addr} {sn sc : Nat} {ta : Option Addr} {tn tc : Nat} {ra : Option Addr} {rn rc : Nat} {sz st : List Int} {rs : List RuD} {w : World} (h : MRd w sa sn sc ta tn tc ra rn rc sz st rs) :
    Calls Tryz.prog 12 #[.agg #[.slice sa sn sc, .slice ta tn tc, .slice ra rn rc]] w fun e w' => ∃ g1 g2 g3 : Nat, e = .returned (.agg #[.slice (some ⟨g1, 0, none⟩) sn sn, .slice (some ⟨g2, 0, none⟩) tn tn, .slice (some ⟨g3, 0, none⟩) rn rn]) ∧ Below w.heap.size w w' ∧
      MOwn w' w.heap.size w'.heap.size (some ⟨g1, 0, none⟩) sn sn (some ⟨g2, 0, none⟩) tn tn (some ⟨g3, 0, none⟩) rn rn sz st rs := by
  have HM := Lib.hid h
  have hsn := h.sn
  have htn := h.tn
  have hrn := h.rn
  clear h
  go_enter Tryz.func12, Tryz.ntmps12
  go_wp2_with fail
  obtain ⟨wA, hwA⟩ : ∃ wA : World, wA = (((w.alloc (.cells #[.slice sa sn sc, .slice ta tn tc, .slice ra rn rc] 25)).alloc (.cells #[.slice none 0 0, .slice none 0 0, .slice none 0 0] 36)).alloc (.cells #[.slice none 0 0, .slice none 0 0, .slice none 0 0] 36)) := ⟨_, rfl⟩
  have X := Lib.hid (show Blk wA w.heap.size #[.slice sa sn sc, .slice ta tn tc, .slice ra rn rc] 25 by rw [hwA]; exact ((Blk.made _ _ _).keep bel))
  have Y := Lib.hid (show Blk wA (w.heap.size + 1) #[.slice none 0 0, .slice none 0 0, .slice none 0 0] 36 by rw [hwA]; have h := ((Blk.made (w.alloc (.cells #[.slice sa sn sc, .slice ta tn tc, .slice ra rn rc] 25)) #[.slice none 0 0, .slice none 0 0, .slice none 0 0] 36).keep ((Below.refl _ _).alloc (Nat.le_refl _) (.cells #[.slice none 0 0, .slice none 0 0, .slice none 0 0] 36))); simpa using h)
  have Z := Lib.hid (show Blk wA (w.heap.size + 1 + 1) #[.slice none 0 0, .slice none 0 0, .slice none 0 0] 36 by rw [hwA]; have h := (Blk.made ((w.alloc (.cells #[.slice sa sn sc, .slice ta tn tc, .slice ra rn rc] 25)).alloc (.cells #[.slice none 0 0, .slice none 0 0, .slice none 0 0] 36)) #[.slice none 0 0, .slice none 0 0, .slice none 0 0] 36); simpa using h)
  have hbA : Below w.heap.size w wA := by rw [hwA]; exact bel
  have hsA : w.heap.size + 1 + 1 < wA.heap.size := by have := Z.out.lt; exact this
  rw [← hwA]
  clear hwA
  refine Calls.mono (laws_toInt64S_g (HM.out.s.keep hbA) hsn) ?_
  rintro e w1 ⟨g1, rfl, hb1, ho1⟩
  have kg1 := ho1.blk g1 rfl
  have O1 := Lib.hid (ho1.le (show w.heap.size + 1 + 1 + 1 ≤ wA.heap.size by omega))
  have hs1 := hb1.size
  have hbl1 : Below w.heap.size w w1 := below_callS hbA hb1
  replace X := Lib.hid (X.out.keep hb1)
  replace Y := Lib.hid (Y.out.keep hb1)
  replace Z := Lib.hid (Z.out.keep hb1)
  clear ho1 hb1
  have x0 := X.out.cell 0
  have x1 := X.out.cell 1
  have x2 := X.out.cell 2
  have xl := X.out.lt
  have zl := Z.out.lt
  have zf := Z.out.free
  have z0 := Z.out.cell 0
  have z1 := Z.out.cell 1
  have z2 := Z.out.cell 2
  simp at x0 x1 x2 z0 z1 z2
  go_wp2_with fail
  obtain ⟨wB, hwwB⟩ : ∃ wB : World, wB = w1.setCell ⟨w.heap.size + 1 + 1, 0, none⟩ (.slice (some ⟨g1, 0, none⟩) sn sn) := ⟨_, rfl⟩
  rw [← hwwB]
  clear x0 x1 x2 xl zl zf z0 z1 z2
  have sgwB : w1.grownBy wB (some (w.heap.size + 1 + 1)) := by rw [hwwB]; exact set_grown _ _ _
  have hblwB : Below w.heap.size w wB := by rw [hwwB]; exact bel
  have hswB : w1.heap.size ≤ wB.heap.size := sgwB.size
  replace X := Lib.hid (X.out.keepG sgwB (by simp; omega))
  replace Y := Lib.hid (Y.out.keepG sgwB (by simp))
  replace O1 := Lib.hid (O1.out.keepG sgwB (fun g e => by simp at e ⊢; omega))
  have ZwB := Lib.hid (Z.out.wr 0 (.slice (some ⟨g1, 0, none⟩) sn sn))
  rw [← hwwB] at ZwB
  clear Z hwwB sgwB
  have Z := ZwB
  clear ZwB
  simp at Z
  refine Calls.mono (laws_toInt64S_g (HM.out.t.keep hblwB) htn) ?_
  rintro e w2 ⟨g2, rfl, hb2, ho2⟩
  have kg2 := ho2.blk g2 rfl
  have O2 := Lib.hid (ho2.le (show w.heap.size + 1 + 1 + 1 ≤ wB.heap.size by omega))
  have hs2 := hb2.size
  have hbl2 : Below w.heap.size w w2 := below_callS hblwB hb2
  replace X := Lib.hid (X.out.keep hb2)
  replace Y := Lib.hid (Y.out.keep hb2)
  replace Z := Lib.hid (Z.out.keep hb2)
  replace O1 := Lib.hid (O1.out.keep hb2)
  clear ho2 hb2
  have x0 := X.out.cell 0
  have x1 := X.out.cell 1
  have x2 := X.out.cell 2
  have xl := X.out.lt
  have zl := Z.out.lt
  have zf := Z.out.free
  have z0 := Z.out.cell 0
  have z1 := Z.out.cell 1
  have z2 := Z.out.cell 2
  simp at x0 x1 x2 z0 z1 z2
  go_wp2_with fail
  obtain ⟨wC, hwwC⟩ : ∃ wC : World, wC = w2.setCell ⟨w.heap.size + 1 + 1, 1, none⟩ (.slice (some ⟨g2, 0, none⟩) tn tn) := ⟨_, rfl⟩
  rw [← hwwC]
  clear x0 x1 x2 xl zl zf z0 z1 z2
  have sgwC : w2.grownBy wC (some (w.heap.size + 1 + 1)) := by rw [hwwC]; exact set_grown _ _ _
  have hblwC : Below w.heap.size w wC := by rw [hwwC]; exact bel
  have hswC : w2.heap.size ≤ wC.heap.size := sgwC.size
  replace X := Lib.hid (X.out.keepG sgwC (by simp; omega))
  replace Y := Lib.hid (Y.out.keepG sgwC (by simp))
  replace O1 := Lib.hid (O1.out.keepG sgwC (fun g e => by simp at e ⊢; omega))
  replace O2 := Lib.hid (O2.out.keepG sgwC (fun g e => by simp at e ⊢; omega))
  have ZwC := Lib.hid (Z.out.wr 1 (.slice (some ⟨g2, 0, none⟩) tn tn))
  rw [← hwwC] at ZwC
  clear Z hwwC sgwC
  have Z := ZwC
  clear ZwC
  simp at Z
  have hRR := HM.out.r
  obtain ⟨l, hl1, hl2⟩ := hRR
  refine Calls.mono (laws_toRuleS (hl1.keep hblwC hblwC) hrn) ?_
  rintro e w3 ⟨l', rfl, hb3, ho3, hm3⟩
  obtain ⟨g3, hg3⟩ : ∃ g3 : Nat, g3 = wC.heap.size := ⟨_, rfl⟩
  rw [← hg3] at ho3 ⊢
  have kg3 := ho3.row.blk g3 rfl
  have O3 := Lib.hid ho3
  have HL := Lib.hid (hm3.trans hl2)
  have hs3 := hb3.size
  have hbl3 : Below w.heap.size w w3 := below_callS hblwC hb3
  replace X := Lib.hid (X.out.keep hb3)
  replace Y := Lib.hid (Y.out.keep hb3)
  replace Z := Lib.hid (Z.out.keep hb3)
  replace O1 := Lib.hid (O1.out.keep hb3)
  replace O2 := Lib.hid (O2.out.keep hb3)
  clear ho3 hb3 hl1 hl2 hm3
  have x0 := X.out.cell 0
  have x1 := X.out.cell 1
  have x2 := X.out.cell 2
  have xl := X.out.lt
  have zl := Z.out.lt
  have zf := Z.out.free
  have z0 := Z.out.cell 0
  have z1 := Z.out.cell 1
  have z2 := Z.out.cell 2
  simp at x0 x1 x2 z0 z1 z2
  have yl := Y.out.lt
  have yf := Y.out.free
  have y0 := Y.out.cell 0
  have y1 := Y.out.cell 1
  have y2 := Y.out.cell 2
  simp at y0 y1 y2
  go_wp2
  subst hg3
  have hw9 : ∀ wx : World, wx = ((((w3.setCell ⟨w.heap.size + 1 + 1, 2, none⟩ (.slice (some ⟨wC.heap.size, 0, none⟩) rn rn)).setCell ⟨w.heap.size + 1, 0, none⟩ (.slice (some ⟨g1, 0, none⟩) sn sn)).setCell ⟨w.heap.size + 1, 1, none⟩ (.slice (some ⟨g2, 0, none⟩) tn tn)).setCell ⟨w.heap.size + 1, 2, none⟩ (.slice (some ⟨wC.heap.size, 0, none⟩) rn rn)) → Below w.heap.size w wx ∧ MOwn wx w.heap.size wx.heap.size (some ⟨g1, 0, none⟩) sn sn (some ⟨g2, 0, none⟩) tn tn (some ⟨wC.heap.size, 0, none⟩) rn rn sz st rs := by
    intro wx hwx
    have h1 : w3.grownBy (w3.setCell ⟨w.heap.size + 1 + 1, 2, none⟩ (.slice (some ⟨wC.heap.size, 0, none⟩) rn rn)) (some (w.heap.size + 1 + 1)) := set_grown _ _ _
    have h2 : (w3.setCell ⟨w.heap.size + 1 + 1, 2, none⟩ (.slice (some ⟨wC.heap.size, 0, none⟩) rn rn)).grownBy wx (some (w.heap.size + 1)) := by rw [hwx]; exact grownBy_set (grownBy_set (set_grown _ _ _) _ _) _ _
    have hon : Only (w.heap.size + 1) (w.heap.size + 1 + 1 + 1) w3 wx := ((Only.refl _ _ _).grown h1 (fun k e => by cases e; omega)).grown h2 (fun k e => by cases e; omega)
    have hsz := hon.size
    refine ⟨hon.below hbl3 (by omega) (by omega), ⟨(O1.out.only hon (fun g e => by simp at e; omega)).le (by omega), (O2.out.only hon (fun g e => by simp at e; omega)).le (by omega), ?_, fun g e1 e2 => by simp at e1 e2; omega, fun g e => by simp at e; omega, fun g e => by simp at e; omega, hsn, htn, hrn⟩⟩
    have hbd := O3.out.bd
    refine ⟨l', (ROwn.here hbd w3 wx (fun k hk1 hk2 => hon.block k hk2 (.inr (by omega))) O3.out).le (by omega), ⟨fun g e => ?_, fun x hx => ⟨fun g e => ?_, fun g e => ?_⟩⟩, HL.out⟩
    · have := hbd.1 g e; omega
    · have := (hbd.2 x hx).1 g e; omega
    · have := (hbd.2 x hx).2 g e; omega
  have H9 := Lib.hid hw9
  clear hw9
  exact bodyPost_ret (v := .agg #[.slice (some ⟨g1, 0, none⟩) sn sn, .slice (some ⟨g2, 0, none⟩) tn tn, .slice (some ⟨wC.heap.size, 0, none⟩) rn rn]) (by simp [results, Tryz.results12, go_sem, *]) rfl ⟨g1, g2, wC.heap.size, rfl, (H9.out _ rfl).1, (H9.out _ rfl).2⟩
set_option maxHeartbeats 2000000 in
theorem laws_eqModel {sa sa' : Option Addr} {sn sc sn' sc' : Nat} {ta ta' : Option Addr} {tn tc tn' tc' : Nat} {ra ra' : Option Addr} {rn rc rn' rc' : Nat} {sz st : List Int} {rs : List RuD} {w : World} (h : MRd w sa sn sc ta tn tc ra rn rc sz st rs) (h' : MRd w sa' sn' sc' ta' tn' tc' ra' rn' rc' sz st rs) :
    Calls Tryz.prog 16 #[.agg #[.slice sa sn sc, .slice ta tn tc, .slice ra rn rc], .agg #[.slice sa' sn' sc', .slice ta' tn' tc', .slice ra' rn' rc']] w fun e w' => e = .returned (.bool true) ∧ Below w.heap.size w w' := by
  obtain ⟨l, hl, hlr⟩ := h.r
  obtain ⟨l', hl', hlr'⟩ := h'.r
  obtain rfl : rn' = rn := by rw [← hl'.len, ← hl.len, ← List.length_map (f := (·.2)), hlr', ← hlr, List.length_map]
  have K1 := Lib.hid (fun (wx : World) (hb : Below w.heap.size w wx) => laws_eqInt64S (h.s.keep hb) (h'.s.keep hb) h.sn h'.sn)
  have K2 := Lib.hid (fun (wx : World) (hb : Below w.heap.size w wx) => laws_eqInt64S (h.t.keep hb) (h'.t.keep hb) h.tn h'.tn)
  have K3 := Lib.hid (fun (wx : World) (hb : Below w.heap.size w wx) => laws_eqRuleS (hl.keep hb hb) (hl'.keep hb hb) (hlr.trans hlr'.symm) h.rn)
  simp only [decide_true] at K1 K2
  clear h h' hl hl' hlr hlr'
  go_enter Tryz.func16, Tryz.ntmps16
  go_wp2_with fail
  refine Calls.mono (K1.out _ bel) ?_
  rintro e w1 ⟨rfl, hb_w1⟩
  obtain ⟨hc_w1, hf_w1⟩ := bcell hb_w1
  have hs_w1 := hb_w1.size
  simp at hs_w1
  have hz1 : w.heap.size < w1.heap.size := by omega
  have hz2 : w.heap.size + 1 < w1.heap.size := by omega
  go_wp2_with fail
  refine Calls.mono (K2.out _ bel) ?_
  rintro e w2 ⟨rfl, hb_w2⟩
  obtain ⟨hc_w2, hf_w2⟩ := bcell hb_w2
  have hs_w2 := hb_w2.size
  have hz3 : w.heap.size < w2.heap.size := by omega
  have hz4 : w.heap.size + 1 < w2.heap.size := by omega
  go_wp2_with fail
  refine Calls.mono (K3.out _ bel) ?_
  rintro e w3 ⟨rfl, hb_w3⟩
  obtain ⟨hc_w3, hf_w3⟩ := bcell hb_w3
  have hs_w3 := hb_w3.size
  go_wp2
  go_ret
  exact ⟨rfl, bel⟩
set_option maxHeartbeats 2000000 in
theorem laws_markModel {lo hi N : Nat} {sa : Option Addr} {sn sc : Nat} {ta : Option Addr} {tn tc : Nat} {ra : Option Addr} {rn rc : Nat} {sz st : List Int} {rs : List RuD} {q : Int} {w : World} (h : MOwn w lo hi sa sn sc ta tn tc ra rn rc sz st rs) (hN : cntRu rs = N) (hq0 : 0 ≤ q) (hq1 : q + sn + tn + N ≤ 1099511627776) (hhi : hi ≤ w.heap.size) :
    Calls Tryz.prog 18 #[.agg #[.slice sa sn sc, .slice ta tn tc, .slice ra rn rc], .int .i64 q] w fun e w' => e = .returned (.int .i64 (q + sn + tn + N)) ∧ Only lo hi w w' ∧ MOwn w' lo hi sa sn sc ta tn tc ra rn rc (marksI q sn) (marksI (q + sn) tn) (marksR (q + sn + tn) rs) := by
  have HM := Lib.hid h
  have hsn := h.sn
  have htn := h.tn
  have hrn := h.rn
  clear h
  go_enter Tryz.func18, Tryz.ntmps18
  go_wp2_with fail
  obtain ⟨wA, hwA⟩ : ∃ wA : World, wA = w.alloc (.cells #[.slice sa sn sc, .slice ta tn tc, .slice ra rn rc] 36) := ⟨_, rfl⟩
  have X := Lib.hid (show Blk wA w.heap.size #[.slice sa sn sc, .slice ta tn tc, .slice ra rn rc] 36 by rw [hwA]; exact Blk.made _ _ _)
  have hbA : Below w.heap.size w wA := by rw [hwA]; exact bel
  rw [← hwA]
  clear hwA
  have S0 := (HM.out.keep hbA).s
  have T0 := (HM.out.keep hbA).t
  have R0 := (HM.out.keep hbA).r
  have HO := Lib.hid (Only.of_below (lo := lo) (hi := hi) hbA)
  refine Calls.mono (laws_markInt64S S0 hsn hq0 (by omega)) ?_
  rintro e w1 ⟨rfl, ht, ho⟩
  have S1 := Lib.hid ho
  have T1 := Lib.hid (T0.keepT ht HM.out.ap.symm)
  have R1 := Lib.hid (R0.keepTI S0.typ ht)
  have ho1 := ht.only HM.out.bs
  replace X := Lib.hid (X.out.apart ho1 (.inr hhi))
  replace HO := Lib.hid (HO.out.trans ho1)
  have xl := X.out.lt
  have x0 := X.out.cell 0
  have x1 := X.out.cell 1
  have x2 := X.out.cell 2
  simp at x0 x1 x2
  clear ht ho ho1 S0 T0 R0 hbA
  go_wp2_with fail
  refine Calls.mono (laws_markInt64S T1.out htn (by omega) (by omega)) ?_
  rintro e w2 ⟨rfl, ht, ho⟩
  have T2 := Lib.hid ho
  have S2 := Lib.hid (S1.out.keepT ht HM.out.ap)
  have R2 := Lib.hid (R1.out.keepTI T1.out.typ ht)
  have ho1 := ht.only HM.out.bt
  replace X := Lib.hid (X.out.apart ho1 (.inr hhi))
  replace HO := Lib.hid (HO.out.trans ho1)
  clear xl x0 x1 x2
  have xl := X.out.lt
  have x0 := X.out.cell 0
  have x1 := X.out.cell 1
  have x2 := X.out.cell 2
  simp at x0 x1 x2
  clear ht ho ho1 T1 R1 S1
  go_wp2_with fail
  refine Calls.mono (laws_markRuleS R2.out hN hrn (by omega) (by omega)) ?_
  rintro e w3 ⟨rfl, ho1, hr, hk⟩
  have S3 := Lib.hid (S2.out.keepK hk)
  have T3 := Lib.hid (T2.out.keepK hk)
  have R3 := Lib.hid hr
  replace HO := Lib.hid (HO.out.trans ho1)
  clear xl x0 x1 x2 ho1 hr hk
  go_wp2
  go_ret
  exact ⟨rfl, HO.out, S3.out, T3.out, R3.out, HM.out.ap, HM.out.bs, HM.out.bt, hsn, htn, hrn⟩
set_option maxHeartbeats 2000000 in
theorem impl_IsModel {sa ta ra : Option Addr} {sn sc tn tc rn rc : Nat} {sz st : List Int} {l : List (RM × RuD)} {w : World} (hI : Ints w sa sn sc sz) (hn : sn ≤ 1048576) (hT : Ints w ta tn tc st) (ht : tn ≤ 1048576) (hR : FR w w ra rn rc l) (hr : rn ≤ 1048576) :
    Calls Tryz.prog 65 #[.agg #[.slice sa sn sc, .slice ta tn tc, .slice ra rn rc]] w fun e w' => e = .returned (.bool (modelB sz st l)) ∧ Below w.heap.size w w' := by
  have hil := hI.len
  have hrl := hR.len
  have HM := Lib.hid (show modelB sz st l = (inB (sn : Int) 1 16 && (allIn 1 32 sz && (stateB sz st && (decide (rn ≤ 200) && rulesB sz l)))) by rw [modelB, hil, hrl])
  have hB := Blk.made w #[.slice sa sn sc, .slice ta tn tc, .slice ra rn rc] 36
  have hbA : Below w.heap.size w (w.alloc (.cells #[.slice sa sn sc, .slice ta tn tc, .slice ra rn rc] 36)) := (Below.refl _ _).alloc (Nat.le_refl _) _
  obtain ⟨wA, hwA⟩ : ∃ wA : World, wA = w.alloc (.cells #[.slice sa sn sc, .slice ta tn tc, .slice ra rn rc] 36) := ⟨_, rfl⟩
  rw [← hwA] at hB hbA
  have HwA := Lib.hid hwA
  have X := Lib.hid hB
  clear hwA hB hil hrl
  have x0 := X.out.cell 0
  have x1 := X.out.cell 1
  have x2 := X.out.cell 2
  have xl := X.out.lt
  simp at x0 x1 x2
  cases h1 : inB (sn : Int) 1 16
  · have H1 := Lib.hid h1
    clear h1 hI hT hR
    go_enter Tryz.func65, Tryz.ntmps65
    go_wp2_with fail
    rw [← HwA.out]
    go_wp2_with fail
    refine Calls.mono (impl_length_i64) ?_
    rintro e _ ⟨rfl, rfl⟩
    go_wp2_with fail
    refine Calls.mono (impl_within) ?_
    rintro e _ ⟨rfl, rfl⟩
    rw [H1.out]
    go_wp2
    go_ret
    exact ⟨ret_bool (by rw [HM.out, H1.out]; rfl), hbA⟩
  · have H1 := Lib.hid h1
    clear h1
    have hcf := slices_ContainsFunc_i64 (g := 125) (lb := #[]) (p := fun x => !inB x 1 32) (w := wA) (enters_of Tryz.func125 (by kernel_rfl) rfl) (fun W x hx hb => Calls.mono (impl_IsModel_1 (x := x) (w := W)) (fun e w' h => ⟨h.1, h.2 ▸ Below.refl _ _⟩)) (hI.keep hbA) hn
    rw [allIn_any] at hcf
    cases h2 : allIn 1 32 sz
    · rw [h2] at hcf
      have H2 := Lib.hid h2
      have HCF := Lib.hid hcf
      clear h2 hI hT hR hcf
      go_enter Tryz.func65, Tryz.ntmps65
      go_wp2_with fail
      rw [← HwA.out]
      go_wp2_with fail
      refine Calls.mono (impl_length_i64) ?_
      rintro e _ ⟨rfl, rfl⟩
      go_wp2_with fail
      refine Calls.mono (impl_within) ?_
      rintro e _ ⟨rfl, rfl⟩
      rw [H1.out]
      go_wp2_with fail
      refine Calls.mono HCF.out ?_
      rintro e w1 ⟨rfl, hb1⟩
      go_wp2
      go_ret
      exact ⟨ret_bool (by rw [HM.out, H1.out, H2.out]; rfl), below_call hbA hb1 hbA.size⟩
    · rw [h2] at hcf
      have HS := Lib.hid (fun (wx : World) (hb : Below w.heap.size w wx) => impl_isState (ta := ta) (tn := tn) (tc := tc) (ra := ra) (rn := rn) (rc := rc) (hI.keep hb) (hT.keep hb) hn ht h2)
      have HP := Lib.hid (fun (wx : World) (hb : Below w.heap.size w wx) (hB : Blk wx w.heap.size #[.slice sa sn sc, .slice ta tn tc, .slice ra rn rc] 36) => slices_ContainsFunc_Rule (g := 128) (lb := #[.pointer (some ⟨w.heap.size, 0, none⟩)]) (p := fun x => !ruleB sz x.2) (w := wx) (w0 := w) (enters_of Tryz.func128 (by kernel_rfl) rfl) (fun W x hx hb' => impl_IsModel_2 (hB.keep hb') (hI.keep (below_callS hb hb')) hn h2 hx (below_callS hb hb')) (Flats.keep hR hb) hr)
      have H2 := Lib.hid h2
      have HCF := Lib.hid hcf
      clear h2 hI hT hR hcf
      have hst := HS.out
      cases h3 : stateB sz st
      · rw [h3] at hst
        have H3 := Lib.hid h3
        have HST := Lib.hid hst
        clear h3 hst
        go_enter Tryz.func65, Tryz.ntmps65
        go_wp2_with fail
        rw [← HwA.out]
        go_wp2_with fail
        refine Calls.mono (impl_length_i64) ?_
        rintro e _ ⟨rfl, rfl⟩
        go_wp2_with fail
        refine Calls.mono (impl_within) ?_
        rintro e _ ⟨rfl, rfl⟩
        rw [H1.out]
        go_wp2_with fail
        refine Calls.mono HCF.out ?_
        rintro e w1 ⟨rfl, hb1⟩
        have hbl1 : Below w.heap.size w w1 := below_call hbA hb1 hbA.size
        have X1 := Lib.hid (X.out.keep hb1)
        clear x0 x1 x2 xl hb1
        have x0 := X1.out.cell 0
        have x1 := X1.out.cell 1
        have x2 := X1.out.cell 2
        have xl := X1.out.lt
        simp at x0 x1 x2
        go_wp2_with fail
        refine Calls.mono (HST.out _ hbl1) ?_
        rintro e w2 ⟨rfl, hb2⟩
        go_wp2
        go_ret
        exact ⟨ret_bool (by rw [HM.out, H1.out, H2.out, H3.out]; rfl), below_callS hbl1 hb2⟩
      · rw [h3] at hst
        have H3 := Lib.hid h3
        have HST := Lib.hid hst
        clear h3 hst
        by_cases h4 : rn ≤ 200
        · have h4' : (rn : Int) ≤ 200 := by omega
          have H4 := Lib.hid (decide_eq_true h4)
          have hp := HP.out
          rw [show (l.any fun x => !ruleB sz x.2) = !rulesB sz l by rw [rulesB_any, Bool.not_not]] at hp
          cases h5 : rulesB sz l
          all_goals
            rw [h5] at hp
            have H5 := Lib.hid h5
            have HPP := Lib.hid hp
            clear h5 hp
            go_enter Tryz.func65, Tryz.ntmps65
            go_wp2_with fail
            rw [← HwA.out]
            go_wp2_with fail
            refine Calls.mono (impl_length_i64) ?_
            rintro e _ ⟨rfl, rfl⟩
            go_wp2_with fail
            refine Calls.mono (impl_within) ?_
            rintro e _ ⟨rfl, rfl⟩
            rw [H1.out]
            go_wp2_with fail
            refine Calls.mono HCF.out ?_
            rintro e w1 ⟨rfl, hb1⟩
            have hbl1 : Below w.heap.size w w1 := below_call hbA hb1 hbA.size
            have X1 := Lib.hid (X.out.keep hb1)
            clear x0 x1 x2 xl hb1
            have x0 := X1.out.cell 0
            have x1 := X1.out.cell 1
            have x2 := X1.out.cell 2
            have xl := X1.out.lt
            simp at x0 x1 x2
            go_wp2_with fail
            refine Calls.mono (HST.out _ hbl1) ?_
            rintro e w2 ⟨rfl, hb2⟩
            have hbl2 : Below w.heap.size w w2 := below_callS hbl1 hb2
            have X2 := Lib.hid (X1.out.keep hb2)
            clear x0 x1 x2 xl hb2 hbl1
            have x0 := X2.out.cell 0
            have x1 := X2.out.cell 1
            have x2 := X2.out.cell 2
            have xl := X2.out.lt
            simp at x0 x1 x2
            go_wp2_with fail
            refine Calls.mono (HPP.out _ hbl2 X2.out) ?_
            rintro e w3 ⟨rfl, hb3⟩
            go_wp2
            go_ret
            exact ⟨ret_bool (by rw [HM.out, H1.out, H2.out, H3.out, H4.out, H5.out]; rfl), below_callS hbl2 hb3⟩
        · have h4' : ¬ (rn : Int) ≤ 200 := by omega
          have H4 := Lib.hid (decide_eq_false h4)
          clear HP
          go_enter Tryz.func65, Tryz.ntmps65
          go_wp2_with fail
          rw [← HwA.out]
          go_wp2_with fail
          refine Calls.mono (impl_length_i64) ?_
          rintro e _ ⟨rfl, rfl⟩
          go_wp2_with fail
          refine Calls.mono (impl_within) ?_
          rintro e _ ⟨rfl, rfl⟩
          rw [H1.out]
          go_wp2_with fail
          refine Calls.mono HCF.out ?_
          rintro e w1 ⟨rfl, hb1⟩
          have hbl1 : Below w.heap.size w w1 := below_call hbA hb1 hbA.size
          have X1 := Lib.hid (X.out.keep hb1)
          clear x0 x1 x2 xl hb1
          have x0 := X1.out.cell 0
          have x1 := X1.out.cell 1
          have x2 := X1.out.cell 2
          have xl := X1.out.lt
          simp at x0 x1 x2
          go_wp2_with fail
          refine Calls.mono (HST.out _ hbl1) ?_
          rintro e w2 ⟨rfl, hb2⟩
          have hbl2 : Below w.heap.size w w2 := below_callS hbl1 hb2
          have X2 := Lib.hid (X1.out.keep hb2)
          clear x0 x1 x2 xl hb2 hbl1
          have x2 := X2.out.cell 2
          have xl := X2.out.lt
          simp at x2
          go_wp2
          go_ret
          exact ⟨ret_bool (by rw [HM.out, H1.out, H2.out, H3.out, H4.out]; rfl), hbl2⟩
end Go.Proofs.YtkaikbaagajckaaGreat
