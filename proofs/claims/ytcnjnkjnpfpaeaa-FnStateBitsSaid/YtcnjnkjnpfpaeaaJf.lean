/- The texts with which the exact laws mark strings, walked.; Rules of the exact laws: marks.; Rules of the exact laws: marks that are held.; Models of the exact laws: copies, comparisons, marks. -/
import Derived.Test.YtcnjnkjnpfpaeaaL01
import Derived.Laws.BytesArg
import Derived.Test.YtcnjnkjnpfpaeaaJe
namespace Go.Proofs.Ytcnjnkjnpfpaeaa
open Go.RowKit
set_option linter.unusedVariables false
set_option linter.unusedSimpArgs false
/-- the digits of q ahead of t -/
def digT : Nat → Int → ByteArray → ByteArray
  | 0, _, t => t
  | f + 1, q, t => if 0 < q then digT f (q / 10) (strOfNums [48 + q % 10] ++ t) else t
def markT (k : Int) : ByteArray := if k ≤ 0 then ⟨#[109, 48]⟩ else ⟨#[109]⟩ ++ digT k.toNat k ⟨#[]⟩
theorem digT_size (f : Nat) (q : Int) (t : ByteArray) : (digT f q t).size ≤ f + t.size := by
  induction f generalizing q t with
  | zero => simp [digT]
  | succ f ih =>
    rw [digT]
    split
    · refine Nat.le_trans (ih _ _) ?_
      rw [ByteArray.size_append, show (strOfNums [48 + q % 10]).size = 1 from rfl]; omega
    · omega
theorem digT_done {f : Nat} {q : Int} {t : ByteArray} (h : q ≤ 0) : digT f q t = t := by
  cases f with
  | zero => rfl
  | succ f => rw [digT, if_neg (by omega)]
theorem digT_step {f : Nat} {q : Int} {t : ByteArray} (h : 0 < q) (hf : q ≤ f) : ∃ f' : Nat, q / 10 ≤ f' ∧ digT f q t = digT f' (q / 10) (strOfNums [48 + q % 10] ++ t) := by
  cases f with
  | zero => omega
  | succ f => exact ⟨f, by omega, by rw [digT, if_pos h]⟩
theorem markT_size {k : Int} (h0 : 0 ≤ k) : ((markT k).size : Int) ≤ k + 2 := by
  rw [markT]
  split
  · show (2 : Int) ≤ _; omega
  · rw [ByteArray.size_append]
    have := digT_size k.toNat k ⟨#[]⟩
    have e : (⟨#[]⟩ : ByteArray).size = 0 := rfl
    have e2 : (⟨#[109]⟩ : ByteArray).size = 1 := rfl
    omega
def cnt1 (r : RuD) : Nat := 1 + 3 * r.g.length + 2 * r.e.length
def cntRu (rs : List RuD) : Nat := (rs.map cnt1).sum
def mark1 (q : Int) (r : RuD) : RuD := ⟨markT q, marks2b (q + 1) r.g.length, marks2 (q + 1 + 3 * (r.g.length : Nat)) r.e.length⟩
/-- the marks of a list of rules -/
def marksR : Int → List RuD → List RuD
  | _, [] => []
  | q, r :: rs => mark1 q r :: marksR (q + (cnt1 r : Nat)) rs
theorem marksR_len (q : Int) (rs : List RuD) : (marksR q rs).length = rs.length := by
  induction rs generalizing q with
  | nil => rfl
  | cons r rs ih => simp [marksR, ih]
theorem cntR_take {rs : List RuD} {k : Nat} {r : RuD} (h : rs[k]? = some r) : cntRu (rs.take (k + 1)) = cntRu (rs.take k) + cnt1 r := by
  rw [cntRu, take_at h, List.map_append, List.sum_append]; simp [cntRu]
theorem cntR_le {rs : List RuD} {k : Nat} {r : RuD} (h : rs[k]? = some r) : cntRu (rs.take k) + cnt1 r ≤ cntRu rs := by
  rw [← cntR_take h]
  have : cntRu rs = cntRu (rs.take (k + 1)) + cntRu (rs.drop (k + 1)) := by
    rw [cntRu, cntRu, cntRu, ← List.sum_append, ← List.map_append, List.take_append_drop]
  omega
theorem marksR_get {q : Int} {rs : List RuD} {k : Nat} {r : RuD} (h : rs[k]? = some r) : (marksR q rs)[k]? = some (mark1 (q + (cntRu (rs.take k) : Nat)) r) := by
  induction rs generalizing q k with
  | nil => simp at h
  | cons x rs ih =>
    cases k with
    | zero => simp at h; subst h; simp [marksR, cntRu]
    | succ k =>
      have := ih (q := q + (cnt1 x : Nat)) (k := k) (by simpa using h)
      rw [marksR, List.getElem?_cons_succ, this]
      congr 2
      simp [cntRu]; omega
theorem mixR {q : Int} {rs : List RuD} {k : Nat} {r : RuD} {m : List RuD} (h : rs[k]? = some r) (hm : m = (marksR q rs).take k ++ rs.drop k) : m.set k (mark1 (q + (cntRu (rs.take k) : Nat)) r) = (marksR q rs).take (k + 1) ++ rs.drop (k + 1) := by
  subst hm
  have hlt : k < rs.length := (List.getElem?_eq_some_iff.1 h).1
  have h1 : ((marksR q rs).take k).length = k := by rw [List.length_take, marksR_len]; omega
  rw [take_at (marksR_get h), List.set_append_right _ _ (by omega), h1, Nat.sub_self, show rs.drop k = rs[k] :: rs.drop (k + 1) from List.drop_eq_getElem_cons (by omega), List.set_cons_zero, List.append_assoc]
  rfl
theorem map_set2 {l : List (RM × RuD)} {i : Nat} {x : RM × RuD} : (l.set i x).map (·.2) = (l.map (·.2)).set i x.2 := List.map_set ..
/-- a slice of rules that is the call's own, by what it means -/
def MR (w : World) (lo hi : Nat) (a : Option Addr) (n c : Nat) (rs : List RuD) : Prop := ∃ l, ROwn w lo a n c l ∧ RBd lo hi a l ∧ l.map (·.2) = rs
theorem MR.keep {w w' : World} {lo hi : Nat} {a : Option Addr} {n c : Nat} {rs : List RuD} (h : MR w lo hi a n c rs) (hb : Below w.heap.size w w') : MR w' lo hi a n c rs := by
  obtain ⟨l, h1, h2, h3⟩ := h
  exact ⟨l, h1.keep hb, h2, h3⟩
theorem MR.here {lo hi : Nat} {a : Option Addr} {n c : Nat} {rs : List RuD} (w1 w2 : World) (hk : ∀ k, lo ≤ k → k < hi → w2.heap[k]? = w1.heap[k]?) (h : MR w1 lo hi a n c rs) : MR w2 lo hi a n c rs := by
  obtain ⟨l, h1, h2, h3⟩ := h
  exact ⟨l, ROwn.here h2 w1 w2 hk h1, h2, h3⟩
/-- a rule of the list, and the list with another rule there -/
theorem MR.at {w : World} {lo hi : Nat} {a : Option Addr} {n c : Nat} {rs : List RuD} (h : MR w lo hi a n c rs) {k : Nat} (hk : k < n) : ∃ (g : Nat) (R : RM) (r : RuD) (l : List (RM × RuD)), a = some ⟨g, 0, none⟩ ∧ rs[k]? = some r ∧ l[k]? = some (R, r) ∧ ROwn w lo a n c l ∧ RBd lo hi a l ∧ l.map (·.2) = rs ∧ RO w lo (R, r) ∧ g < w.heap.size ∧ lo ≤ g ∧ g < hi ∧
    w.cell? ⟨g, k * 3, none⟩ = some (.string R.nm) ∧ w.cell? ⟨g, k * 3 + 1, none⟩ = some (.slice R.ga R.gn R.gc) ∧ w.cell? ⟨g, k * 3 + 2, none⟩ = some (.slice R.ea R.en R.ec) := by
  obtain ⟨l, h1, h2, h3⟩ := h
  obtain ⟨b, off, R, r, rfl, hb, hx, _, c0, c1, c2⟩ := FR.get h1.fr hk
  obtain ⟨g, hg⟩ := h1.row.shape (by omega)
  simp only [Option.some.injEq, Addr.mk.injEq, and_true] at hg
  obtain ⟨rfl, rfl⟩ := hg
  simp only [Nat.zero_add] at c0 c1 c2
  have hb2 := h2.1 b rfl
  exact ⟨b, R, r, l, rfl, by rw [← h3, List.getElem?_map, hx]; rfl, hx, h1, h2, h3, h1.each _ (List.mem_of_getElem? hx), hb, hb2.1, hb2.2, c0, c1, c2⟩
theorem ROwn.cells {w : World} {lo g : Nat} {n c : Nat} {l : List (RM × RuD)} (h : ROwn w lo (some ⟨g, 0, none⟩) n c l) {k : Nat} {R : RM} {r : RuD} (hx : l[k]? = some (R, r)) : g < w.heap.size ∧ w.cell? ⟨g, k * 3, none⟩ = some (.string R.nm) ∧ w.cell? ⟨g, k * 3 + 1, none⟩ = some (.slice R.ga R.gn R.gc) ∧ w.cell? ⟨g, k * 3 + 2, none⟩ = some (.slice R.ea R.en R.ec) := by
  have hk : k < n := by rw [← h.row.len]; exact (List.getElem?_eq_some_iff.1 hx).1
  obtain ⟨b, off, R', r', he, hb, hx', _, c0, c1, c2⟩ := FR.get h.fr hk
  simp only [Option.some.injEq, Addr.mk.injEq, and_true] at he
  obtain ⟨rfl, rfl⟩ := he
  rw [hx] at hx'
  simp only [Option.some.injEq, Prod.mk.injEq] at hx'
  obtain ⟨rfl, rfl⟩ := hx'
  simp only [Nat.zero_add] at c0 c1 c2
  exact ⟨hb, c0, c1, c2⟩
theorem set_at {α : Type} {l : List α} {k : Nat} {x y : α} (h : l[k]? = some y) : (l.set k x)[k]? = some x := by
  rw [List.getElem?_set, if_pos rfl, if_pos (List.getElem?_eq_some_iff.1 h).1]
theorem MR.len {w : World} {lo hi : Nat} {a : Option Addr} {n c : Nat} {rs : List RuD} (h : MR w lo hi a n c rs) : rs.length = n := by
  obtain ⟨l, h1, h2, h3⟩ := h
  rw [← h3, List.length_map]; exact h1.row.len
/-- every block of int64s stays as it was -/
def KeepI (w w' : World) : Prop := ∀ (b : Nat) (cur : Array Value), w.heap[b]? = some (.cells cur 2 (0, 0)) → w'.heap[b]? = some (.cells cur 2 (0, 0))
theorem KeepI.refl (w : World) : KeepI w w := fun _ _ h => h
theorem KeepI.trans {w w' w'' : World} (h : KeepI w w') (h' : KeepI w' w'') : KeepI w w'' := fun b cur hb => h' b cur (h b cur hb)
theorem KeepI.below {w w' : World} (h : Below w.heap.size w w') : KeepI w w' := fun b cur hb => by
  have hlt : b < w.heap.size := Nat.lt_of_not_le fun h => by rw [Array.getElem?_eq_none h] at hb; cases hb
  rw [h.block b hlt]; exact hb
theorem KeepI.grown {w w' : World} {g : Nat} {E : TypeId} (h : w.grownBy w' (some g)) (ht : ∃ cur, w.heap[g]? = some (.cells cur E (0, 0))) (hE : E ≠ 2) : KeepI w w' := fun b cur hb => by
  have hlt : b < w.heap.size := Nat.lt_of_not_le fun h => by rw [Array.getElem?_eq_none h] at hb; cases hb
  rw [h.block b hlt fun e => ?_]
  · exact hb
  · cases e
    obtain ⟨c2, h2⟩ := ht
    rw [hb] at h2
    simp at h2
    exact hE h2.2.symm
theorem KeepI.touch {w w' : World} {n : Nat} {a : Option Addr} {E : TypeId} (h : Touch w w' n a) (ht : ∀ {g : Nat}, a = some ⟨g, 0, none⟩ → ∃ cur, w.heap[g]? = some (.cells cur E (0, 0))) (hE : E ≠ 2) : KeepI w w' := by
  obtain ⟨r, hg, hr⟩ := h
  cases r with
  | none => exact KeepI.below ((Below.refl _ _).grown hg (Nat.le_refl _) (fun k e => by cases e))
  | some g => exact KeepI.grown hg (ht (hr g rfl).2) hE
theorem OwnI.keepK {w w' : World} {base : Nat} {a : Option Addr} {n c : Nat} {l : List Int} (h : OwnI 2 w base a n c l) (hk : KeepI w w') : OwnI 2 w' base a n c l := by
  obtain ⟨⟨hl, h2⟩, hw⟩ := h
  refine ⟨⟨hl, ?_⟩, hw⟩
  rcases h2 with h2 | ⟨g, cap, cur, he, hbs, hg, r⟩
  · exact .inl h2
  · exact .inr ⟨g, cap, cur, he, hbs, hk _ _ hg, r⟩

theorem Blk.wr {w : World} {b : Nat} {cs : Array Value} {T : TypeId} (h : Blk w b cs T) (i : Nat) (v : Value) : Blk (w.setCell ⟨b, i, none⟩ v) b (cs.setIfInBounds i v) T := by
  exact heap_setCell_same w b i cs T v h
/-- a model that is read, by what it means -/
structure MRd (w : World) (sa : Option Addr) (sn sc : Nat) (ta : Option Addr) (tn tc : Nat) (ra : Option Addr) (rn rc : Nat) (sz st : List Int) (rs : List RuD) : Prop where
  s : Ints w sa sn sc sz
  t : Ints w ta tn tc st
  r : ∃ l, FR w w ra rn rc l ∧ l.map (·.2) = rs
  sn : sn ≤ 1048576
  tn : tn ≤ 1048576
  rn : rn ≤ 1048576
/-- a model of the call's own -/
structure MOwn (w : World) (lo hi : Nat) (sa : Option Addr) (sn sc : Nat) (ta : Option Addr) (tn tc : Nat) (ra : Option Addr) (rn rc : Nat) (sz st : List Int) (rs : List RuD) : Prop where
  s : OwnI 2 w lo sa sn sc sz
  t : OwnI 2 w lo ta tn tc st
  r : MR w lo hi ra rn rc rs
  ap : Apart sa ta
  bs : inI lo hi sa
  bt : inI lo hi ta
  sn : sn ≤ 1048576
  tn : tn ≤ 1048576
  rn : rn ≤ 1048576
theorem MR.fr {w : World} {lo hi : Nat} {a : Option Addr} {n c : Nat} {rs : List RuD} (h : MR w lo hi a n c rs) : ∃ l, FR w w a n c l ∧ l.map (·.2) = rs := by
  obtain ⟨l, h1, h2, h3⟩ := h
  exact ⟨l, h1.fr, h3⟩
theorem FR.keep {w0 w w' : World} {a : Option Addr} {n c : Nat} {l : List (RM × RuD)} (h : FR w0 w a n c l) (hb0 : Below w0.heap.size w0 w') (hb : Below w.heap.size w w') : FR w' w' a n c l := by
  have hf := Flats.keep h hb
  exact ⟨hf.len, hf.cap, hf.pos, fun x hx => (hf.wf x hx).keep hb0, hf.nil⟩
theorem MR.keepTI {w w' : World} {lo hi m : Nat} {a a' : Option Addr} {n c : Nat} {rs : List RuD} (h : MR w lo hi a n c rs) (ty : ∀ {g : Nat}, a' = some ⟨g, 0, none⟩ → ∃ cur, w.heap[g]? = some (.cells cur 2 (0, 0))) (ht : Touch w w' m a') : MR w' lo hi a n c rs := by
  obtain ⟨l, h1, h2, h3⟩ := h
  refine ⟨l, ⟨h1.row.keepT ht (typ_apart h1.row.typ ty (by decide)), fun x hx => ?_, h1.apart⟩, h2, h3⟩
  have hh := h1.each x hx
  exact ⟨hh.nm, hh.nms, hh.g.keepT ht (typ_apart hh.g.typ ty (by decide)), hh.gn, hh.e.keepT ht (typ_apart hh.e.typ ty (by decide)), hh.en⟩
section
variable {w w' : World} {lo hi : Nat} {sa : Option Addr} {sn sc : Nat} {ta : Option Addr} {tn tc : Nat} {ra : Option Addr} {rn rc : Nat} {sz st : List Int} {rs : List RuD}
theorem MRd.keep (h : MRd w sa sn sc ta tn tc ra rn rc sz st rs) (hb : Below w.heap.size w w') : MRd w' sa sn sc ta tn tc ra rn rc sz st rs := by
  obtain ⟨l, h1, h2⟩ := h.r
  exact ⟨h.s.keep hb, h.t.keep hb, ⟨l, h1.keep hb hb, h2⟩, h.sn, h.tn, h.rn⟩
theorem MOwn.rd (h : MOwn w lo hi sa sn sc ta tn tc ra rn rc sz st rs) : MRd w sa sn sc ta tn tc ra rn rc sz st rs := ⟨h.s.ints, h.t.ints, h.r.fr, h.sn, h.tn, h.rn⟩
theorem MOwn.keep (h : MOwn w lo hi sa sn sc ta tn tc ra rn rc sz st rs) (hb : Below w.heap.size w w') : MOwn w' lo hi sa sn sc ta tn tc ra rn rc sz st rs := ⟨h.s.keep hb, h.t.keep hb, h.r.keep hb, h.ap, h.bs, h.bt, h.sn, h.tn, h.rn⟩
theorem MOwn.here (w1 w2 : World) (hk : ∀ k, lo ≤ k → k < hi → w2.heap[k]? = w1.heap[k]?) (h : MOwn w1 lo hi sa sn sc ta tn tc ra rn rc sz st rs) : MOwn w2 lo hi sa sn sc ta tn tc ra rn rc sz st rs :=
  ⟨OwnI.here h.bs w1 w2 hk h.s, OwnI.here h.bt w1 w2 hk h.t, MR.here w1 w2 hk h.r, h.ap, h.bs, h.bt, h.sn, h.tn, h.rn⟩
theorem MOwn.own (h : MOwn w lo hi sa sn sc ta tn tc ra rn rc sz st rs) (hh : hi ≤ w.heap.size) : Own (fun w => MOwn w lo hi sa sn sc ta tn tc ra rn rc sz st rs) lo hi w := ⟨h, hh, MOwn.here⟩
end
end Go.Proofs.Ytcnjnkjnpfpaeaa
