/- The ride model of the program, walked. -/
import Derived.Test.YtfnamjkmkoldeaaGreatDoorQc
import Derived.Test.YtfnamjkmkoldeaaGreatDoorQl
import Derived.Test.YtfnamjkmkoldeaaGreatDoorQm
namespace Go.Proofs.YtfnamjkmkoldeaaGreatDoor
open Go.RowKit
set_option linter.unusedVariables false
set_option linter.unusedSimpArgs false
def ruD (s : RS) : RuD := ⟨s.nm, s.g, s.e⟩
def rmR (r : RR) : RM := ⟨r.nm, r.ga, r.gn, r.gc, r.ea, r.en, r.ec⟩
def zipR (L : List RR) (S : List RS) : List (RM × RuD) := (L.zip S).map fun x => (rmR x.1, ruD x.2)
def rideSz (n B bud : Nat) : List Int := List.replicate n (3 * (B : Int)) ++ (List.replicate B 4 ++ [(bud : Int) + 1])
def rideSt (l : List Int) (B bud : Nat) : List Int := l ++ (List.replicate B 0 ++ [(bud : Int)])
def rideRs (n B bud : Nat) (sec : Bool) : List RuD := (rulesS n B bud sec).map ruD
theorem zipR_map {L : List RR} {S : List RS} (h : L.length = S.length) : (zipR L S).map (·.2) = S.map ruD := by
  rw [zipR, List.map_map]
  have : (L.zip S).map (fun x => x.2) = S := by
    rw [List.map_snd_zip]; omega
  conv => rhs; rw [← this]
  rw [List.map_map]; rfl
theorem zipR_len {L : List RR} {S : List RS} (h : L.length = S.length) : (zipR L S).length = L.length := by
  rw [zipR, List.length_map, List.length_zip]; omega
theorem zipR_get {L : List RR} {S : List RS} {i : Nat} {y : RM × RuD} (h : (zipR L S)[i]? = some y) : ∃ r s, L[i]? = some r ∧ S[i]? = some s ∧ y = (rmR r, ruD s) := by
  rw [zipR, List.getElem?_map] at h
  obtain ⟨x, hx, rfl⟩ := Option.map_eq_some_iff.1 h
  rw [List.getElem?_zip_eq_some] at hx
  exact ⟨x.1, x.2, hx.1, hx.2, rfl⟩
theorem RDs.at {w : World} {base : Nat} : ∀ {L : List RR} {S : List RS}, RDs w base L S → ∀ {i : Nat} {r : RR} {s : RS}, L[i]? = some r → S[i]? = some s → RD w base r s
  | [], [], _, i, r, s, h, _ => by simp at h
  | x :: L, y :: S, h, i, r, s, h1, h2 => by
    cases i with
    | zero => simp at h1 h2; subst h1 h2; exact h.1
    | succ i => simp at h1 h2; exact RDs.at h.2 h1 h2
  | [], _ :: _, h, _, _, _, _, _ => h.elim
  | _ :: _, [], h, _, _, _, _, _ => h.elim
theorem blks_apart {L : List RR} (h : (L.flatMap RR.blks).Nodup) : ∀ {i j : Nat} {x y : RR}, L[i]? = some x → L[j]? = some y → i ≠ j → ∀ b, b ∈ x.blks → b ∈ y.blks → False := by
  induction L with
  | nil => intro i j x y hx; simp at hx
  | cons z r ih =>
    rw [List.flatMap_cons, List.nodup_append] at h
    intro i j x y hx hy hne b hb1 hb2
    cases i with
    | zero =>
      cases j with
      | zero => exact hne rfl
      | succ j =>
        simp at hx hy
        subst hx
        exact h.2.2 b hb1 b (List.mem_flatMap.2 ⟨y, List.mem_of_getElem? hy, hb2⟩) rfl
    | succ i =>
      cases j with
      | zero =>
        simp at hx hy
        subst hy
        exact h.2.2 b hb2 b (List.mem_flatMap.2 ⟨x, List.mem_of_getElem? hx, hb1⟩) rfl
      | succ j =>
        simp at hx hy
        exact ih h.2.1 hx hy (by omega) b hb1 hb2
/-- from the rules of a ride to rules of a model -/
theorem rown_of {w : World} {base lo : Nat} {a a3 : Option Addr} {n c c3 : Nat} {L : List RR} {S : List RS} (h : RL w base a n c L S) (hlo : lo ≤ base) (hS : ∀ s ∈ S, s.nm.size ≤ maxLen ∧ s.g.length ≤ 1048576 ∧ s.e.length ≤ 1048576)
    (hrow : OwnF 3 encR (fun _ => True) 98 w lo a3 n c3 (zipR L S)) : ROwn w lo a3 n c3 (zipR L S) := by
  refine ⟨hrow, fun y hy => ?_, fun i j x y hx hy hne => ?_⟩
  · obtain ⟨i, hi⟩ := List.getElem?_of_mem hy
    obtain ⟨r, s, h1, h2, rfl⟩ := zipR_get hi
    obtain ⟨e1, e2, e3, e4⟩ := h.rds.at h1 h2
    obtain ⟨q1, q2, q3⟩ := hS s (List.mem_of_getElem? h2)
    have l1 := e3.len
    have l2 := e4.len
    exact ⟨e1, q1, e3.le hlo, by show r.gn ≤ _; omega, e4.le hlo, by show r.en ≤ _; omega⟩
  · obtain ⟨r, s, h1, h2, rfl⟩ := zipR_get hx
    obtain ⟨r', s', h1', h2', rfl⟩ := zipR_get hy
    have hb := blks_apart h.nd h1 h1' hne
    refine ⟨fun g e1 e2 => ?_, fun g e1 e2 => ?_⟩
    · change r.ga = _ at e1
      change r'.ga = _ at e2
      exact hb g (by simp [RR.blks, e1]) (by simp [RR.blks, e2])
    · change r.ea = _ at e1
      change r'.ea = _ at e2
      exact hb g (by simp [RR.blks, e1]) (by simp [RR.blks, e2])
theorem RDs.here {base lo hi : Nat} (w1 w2 : World) (hk : ∀ k, lo ≤ k → k < hi → w2.heap[k]? = w1.heap[k]?) : ∀ {L : List RR} {S : List RS}, RDs w1 base L S → (∀ b ∈ L.flatMap RR.blks, lo ≤ b ∧ b < hi) → RDs w2 base L S
  | [], [], _, _ => trivial
  | x :: L, y :: S, h, hb => by
    have h1 := hb _ (by simp [RR.blks] : (x.ga.map (·.block)).getD 0 ∈ _)
    have h2 := hb _ (by simp [RR.blks] : (x.ea.map (·.block)).getD 0 ∈ _)
    refine ⟨⟨h.1.1, h.1.2.1, OwnF.here (lo := lo) (hi := hi) (fun g e => ?_) w1 w2 hk h.1.2.2.1, OwnF.here (lo := lo) (hi := hi) (fun g e => ?_) w1 w2 hk h.1.2.2.2⟩, RDs.here w1 w2 hk h.2 fun b hb' => hb b (by rw [List.flatMap_cons]; exact List.mem_append_right _ hb')⟩
    · rw [e] at h1; exact h1
    · rw [e] at h2; exact h2
  | [], _ :: _, h, _ => h.elim
  | _ :: _, [], h, _ => h.elim
theorem RL.only {w w' : World} {base p : Nat} {a : Option Addr} {n c : Nat} {L : List RR} {S : List RS} (h : RL w base a n c L S) (ho : Only p (p + 1) w w') (hp : p < base) : RL w' base a n c L S := by
  have hs := ho.size
  refine ⟨h.own.only ho (fun g e => .inr (by have := (h.own.blk g e).1; omega)), RDs.here (lo := base) (hi := w.heap.size) w w' (fun k h1 h2 => ho.block k h2 (.inr (by omega))) h.rds h.bl, h.nd, fun b hb => ?_, h.ap⟩
  have := h.bl b hb
  omega
theorem rnm_size (k i b : Nat) : (rnm k i b).size = (ruleNm.getD k []).length + 4 := by
  rw [rnm, ruleNameS]
  simp only [ByteArray.size_append, digStr_size]
  rfl
theorem freeL_len (n i b c j : Nat) : (freeL n i b c j).length ≤ 3 + 4 * j := by
  rw [freeL, List.length_append]
  have : ((List.range j).flatMap (freeO i b c)).length ≤ 4 * j := by
    induction j with
    | zero => simp
    | succ j ih =>
      rw [List.range_succ, List.flatMap_append, List.length_append]
      have : ([j].flatMap (freeO i b c)).length ≤ 4 := by
        simp only [List.flatMap_cons, List.flatMap_nil, List.append_nil, freeO]
        split <;> simp
      omega
  simp only [List.length_cons, List.length_nil]; omega
def ROk (s : RS) : Prop := s.nm.size ≤ maxLen ∧ s.g.length ≤ 1048576 ∧ s.e.length ≤ 1048576
theorem trS_rok {n B i b : Nat} {sec : Bool} (hn : n ≤ 4) : ∀ s ∈ trS n B i b sec, ROk s := by
  intro s hs
  have h0 := rnm_size 0 i b
  have h1 := rnm_size 1 i b
  have h2 := rnm_size 2 i b
  have h3 := rnm_size 3 i b
  have hf := freeL_len n i b ((b + 1) % B) n
  have e0 : (ruleNm.getD 0 []).length ≤ 20 := by decide
  have e1 : (ruleNm.getD 1 []).length ≤ 20 := by decide
  have e2 : (ruleNm.getD 2 []).length ≤ 20 := by decide
  have e3 : (ruleNm.getD 3 []).length ≤ 20 := by decide
  cases sec <;> simp [trS] at hs
  · rcases hs with rfl | rfl | rfl <;> refine ⟨?_, ?_, ?_⟩ <;> first | (simp only [List.length_cons, List.length_nil]; omega) | (show _ ≤ maxLen; unfold maxLen; simp only; omega) | (simp only; omega)
  · rcases hs with rfl | rfl | rfl | rfl <;> refine ⟨?_, ?_, ?_⟩ <;> first | (simp only [List.length_cons, List.length_nil]; omega) | (show _ ≤ maxLen; unfold maxLen; simp only; omega) | (simp only; omega)
theorem faS_rok {n B b q : Nat} {sec : Bool} : ∀ s ∈ faS n B b q sec, ROk s := by
  intro s hs
  have h0 := rnm_size 4 b q
  have h1 := rnm_size 5 b q
  have h2 := rnm_size 6 b q
  have e0 : (ruleNm.getD 4 []).length ≤ 20 := by decide
  have e1 : (ruleNm.getD 5 []).length ≤ 20 := by decide
  have e2 : (ruleNm.getD 6 []).length ≤ 20 := by decide
  cases sec <;> simp [faS] at hs
  · rcases hs with rfl | rfl <;> refine ⟨?_, ?_, ?_⟩ <;> first | (simp only [faG, faE, List.length_cons, List.length_nil]; omega) | (show _ ≤ maxLen; unfold maxLen; simp only; omega)
  · rcases hs with rfl | rfl | rfl <;> refine ⟨?_, ?_, ?_⟩ <;> first | (simp only [faG, faE, List.length_cons, List.length_nil]; omega) | (show _ ≤ maxLen; unfold maxLen; simp only; omega)
theorem rulesS_ok {n B bud : Nat} {sec : Bool} (hn : n ≤ 4) : ∀ s ∈ rulesS n B bud sec, ROk s := by
  intro s hs
  rw [rulesS, List.mem_append] at hs
  rcases hs with hs | hs
  · rw [trSI] at hs
    obtain ⟨i, _, hs⟩ := List.mem_flatMap.1 hs
    rw [trSB] at hs
    obtain ⟨b, _, hs⟩ := List.mem_flatMap.1 hs
    exact trS_rok hn s hs
  · rw [faSI] at hs
    obtain ⟨b, _, hs⟩ := List.mem_flatMap.1 hs
    rw [faSJ] at hs
    obtain ⟨j, _, hs⟩ := List.mem_flatMap.1 hs
    exact faS_rok s hs
theorem Only.thenB {lo hi : Nat} {w0 w w' : World} (h : Only lo hi w0 w) (hb : Below w0.heap.size w w') : Only lo hi w0 w' :=
  ⟨hb.os.trans h.os, hb.tape.trans h.tape, hb.output.trans h.output, Nat.le_trans h.size hb.size, fun k hk hr => (hb.block k hk).trans (h.block k hk hr)⟩
theorem encR_one (y : RM × RuD) : ∀ u ∈ encR y, u.oneCell' = true := fun u hu => by
  simp only [encR, RM.enc, List.mem_cons, List.not_mem_nil, or_false] at hu
  rcases hu with rfl | rfl | rfl <;> rfl
def MdRet (w : World) (sz st : List Int) (rs : List RuD) (e : Ending) (w' : World) : Prop := ∃ a1 n1 c1 a2 n2 c2 a3 n3 c3, e = .returned (.agg #[.slice a1 n1 c1, .slice a2 n2 c2, .slice a3 n3 c3]) ∧ MOwn w' w.heap.size w'.heap.size a1 n1 c1 a2 n2 c2 a3 n3 c3 sz st rs ∧ Below w.heap.size w w'
theorem OwnI.set1 {E : TypeId} {w : World} {base b i : Nat} {v : Value} {a : Option Addr} {n c : Nat} {l : List Int} (h : OwnI E w base a n c l) (hd : a = some ⟨b, 0, none⟩ → False) : OwnI E (w.setCell ⟨b, i, none⟩ v) base a n c l :=
  h.keepG (grownBy_set (grownBy_refl w (some b)) i v) fun g e e' => by cases e'; exact hd e
theorem OwnF.set1 {α : Type} {k : Nat} {enc : α → List Value} {ok : α → Prop} {E : TypeId} {w : World} {base b i : Nat} {v : Value} {a : Option Addr} {n c : Nat} {l : List α} (h : OwnF k enc ok E w base a n c l) (hd : a = some ⟨b, 0, none⟩ → False) : OwnF k enc ok E (w.setCell ⟨b, i, none⟩ v) base a n c l :=
  h.keepG (grownBy_set (grownBy_refl w (some b)) i v) fun g e e' => by cases e'; exact hd e
theorem Blk.set1 {w : World} {b g i : Nat} {v : Value} {cs : Array Value} {T : TypeId} (h : Blk w g cs T) (hd : g ≠ b) : Blk (w.setCell ⟨b, i, none⟩ v) g cs T :=
  h.keepG (grownBy_set (grownBy_refl w (some b)) i v) fun e => by cases e; exact hd rfl
theorem rep_snoc {α : Type} (i : Nat) (x : α) : List.replicate i x ++ [x] = List.replicate (i + 1) x := List.replicate_succ'.symm
set_option maxRecDepth 100000 in
set_option maxHeartbeats 4000000 in
theorem impl_model {B bud n c : Nat} {a : Option Addr} {l : List Int} {sec : Bool} {w : World} (hT : Tab w 0 (strsCells ruleNm)) (hI : Ints w a n c l) (hB : 2 ≤ B) (hB8 : B ≤ 8) (hn : n ≤ 4) (hbud : bud ≤ 2) :
    Calls Tryz.prog 58 #[.agg #[.int .i64 (B : Int), .slice a n c, .int .i64 (bud : Int), .bool sec]] w (MdRet w (rideSz n B bud) (rideSt l B bud) (rideRs n B bud sec)) := by
  have HT := Lib.hid hT
  have HI := Lib.hid hI
  have HLn := Lib.hid hI.len
  have HWF := Lib.hid hI.wf
  clear hT hI
  go_enter Tryz.func58, Tryz.ntmps58
  have X := Lib.hid ((Blk.made w #[.int .i64 (B : Int), .slice a n c, .int .i64 (bud : Int), .bool sec] 90).keep (show Below _ (w.alloc (.cells #[.int .i64 (B : Int), .slice a n c, .int .i64 (bud : Int), .bool sec] 90)) ((w.alloc (.cells #[.int .i64 (B : Int), .slice a n c, .int .i64 (bud : Int), .bool sec] 90)).alloc (.cells #[.slice none 0 0, .slice none 0 0, .slice none 0 0] 44)) by repeat (first | exact Below.refl _ _ | assumption | refine below_allocS ?_ _ | refine below_callS ?_ (by assumption) | (refine Below.alloc ?_ (by first | omega | (simp; done) | (simp; omega)) _) | (refine Below.setCell ?_ (by first | omega | (simp; done) | (simp; omega)) _) | refine Below.drew ?_ | refine below_drewN ?_ _ | (refine below_call ?_ (by assumption) (by first | omega | (simp; done) | (simp; omega))) | (refine Below.trans ?_ (by assumption)))))
  have R := Lib.hid (Blk.made (w.alloc (.cells #[.int .i64 (B : Int), .slice a n c, .int .i64 (bud : Int), .bool sec] 90)) #[.slice none 0 0, .slice none 0 0, .slice none 0 0] 44)
  go_wp2_with fail
  refine Calls.mono (slices_Clone_i64 (HI.out.keep (by repeat (first | exact Below.refl _ _ | assumption | refine below_allocS ?_ _ | refine below_callS ?_ (by assumption) | (refine Below.alloc ?_ (by first | omega | (simp; done) | (simp; omega)) _) | (refine Below.setCell ?_ (by first | omega | (simp; done) | (simp; omega)) _) | refine Below.drew ?_ | refine below_drewN ?_ _ | (refine below_call ?_ (by assumption) (by first | omega | (simp; done) | (simp; omega))) | (refine Below.trans ?_ (by assumption))))) (by omega)) ?_
  rintro e w1 ⟨a2, c2, rfl, hb1, ho2, hnl⟩
  have hs1 := hb1.size
  simp at hs1
  replace X := Lib.hid (X.out.keep hb1)
  replace R := Lib.hid (R.out.keep hb1)
  have HA2 := Lib.hid (fun g (e : a2 = some ⟨g, 0, none⟩) => (ho2.blk g e).2)
  have T := Lib.hid (ho2.le (show w.heap.size ≤ _ by simp; omega))
  have hB1 : Below w.heap.size w w1 := by repeat (first | exact Below.refl _ _ | assumption | refine below_allocS ?_ _ | refine below_callS ?_ (by assumption) | (refine Below.alloc ?_ (by first | omega | (simp; done) | (simp; omega)) _) | (refine Below.setCell ?_ (by first | omega | (simp; done) | (simp; omega)) _) | refine Below.drew ?_ | refine below_drewN ?_ _ | (refine below_call ?_ (by assumption) (by first | omega | (simp; done) | (simp; omega))) | (refine Below.trans ?_ (by assumption)))
  clear ho2 hb1 hnl
  simp at R
  obtain ⟨p, hp⟩ : ∃ p, p = w1.heap.size := ⟨_, rfl⟩
  have hp0 : w.heap.size + 1 < p := by omega
  have x0 := X.out.cell 0
  have x1 := X.out.cell 1
  have x2 := X.out.cell 2
  have x3 := X.out.cell 3
  have xl := X.out.lt
  simp at x0 x1 x2 x3
  go_wp2_with fail
  obtain ⟨wM, hwM⟩ : ∃ wM : World, wM = w1.alloc (.cells #[.slice none 0 0, .slice a2 n c2, .slice none 0 0] 44) := ⟨_, rfl⟩
  have M0 := Lib.hid (show Blk wM p #[.slice none 0 0, .slice a2 n c2, .slice none 0 0] 44 by rw [hwM, hp]; exact Blk.made _ _ _)
  have hBM : Below w.heap.size w wM := by rw [hwM]; repeat (first | exact Below.refl _ _ | assumption | refine below_allocS ?_ _ | refine below_callS ?_ (by assumption) | (refine Below.alloc ?_ (by first | omega | (simp; done) | (simp; omega)) _) | (refine Below.setCell ?_ (by first | omega | (simp; done) | (simp; omega)) _) | refine Below.drew ?_ | refine below_drewN ?_ _ | (refine below_call ?_ (by assumption) (by first | omega | (simp; done) | (simp; omega))) | (refine Below.trans ?_ (by assumption)))
  have hsM : p + 1 ≤ wM.heap.size := by rw [hwM, hp]; simp
  replace X := Lib.hid (show Blk wM w.heap.size #[.int .i64 (B : Int), .slice a n c, .int .i64 (bud : Int), .bool sec] 90 by rw [hwM]; exact X.out.keep (by repeat (first | exact Below.refl _ _ | assumption | refine below_allocS ?_ _ | refine below_callS ?_ (by assumption) | (refine Below.alloc ?_ (by first | omega | (simp; done) | (simp; omega)) _) | (refine Below.setCell ?_ (by first | omega | (simp; done) | (simp; omega)) _) | refine Below.drew ?_ | refine below_drewN ?_ _ | (refine below_call ?_ (by assumption) (by first | omega | (simp; done) | (simp; omega))) | (refine Below.trans ?_ (by assumption)))))
  replace R := Lib.hid (show Blk wM (w.heap.size + 1) #[.slice none 0 0, .slice none 0 0, .slice none 0 0] 44 by rw [hwM]; exact R.out.keep (by repeat (first | exact Below.refl _ _ | assumption | refine below_allocS ?_ _ | refine below_callS ?_ (by assumption) | (refine Below.alloc ?_ (by first | omega | (simp; done) | (simp; omega)) _) | (refine Below.setCell ?_ (by first | omega | (simp; done) | (simp; omega)) _) | refine Below.drew ?_ | refine below_drewN ?_ _ | (refine below_call ?_ (by assumption) (by first | omega | (simp; done) | (simp; omega))) | (refine Below.trans ?_ (by assumption)))))
  replace T := Lib.hid (show OwnI 2 wM w.heap.size a2 n c2 l by rw [hwM]; exact T.out.keep (by repeat (first | exact Below.refl _ _ | assumption | refine below_allocS ?_ _ | refine below_callS ?_ (by assumption) | (refine Below.alloc ?_ (by first | omega | (simp; done) | (simp; omega)) _) | (refine Below.setCell ?_ (by first | omega | (simp; done) | (simp; omega)) _) | refine Below.drew ?_ | refine below_drewN ?_ _ | (refine below_call ?_ (by assumption) (by first | omega | (simp; done) | (simp; omega))) | (refine Below.trans ?_ (by assumption)))))
  have HP2 := Lib.hid (fun g (e : a2 = some ⟨g, 0, none⟩) => (show g < p from by have := HA2.out g e; omega))
  rw [← hp, ← hwM]
  clear hwM hp HA2 x0 x1 x2 x3 xl hB1
  go_loopw [15] (fun s15 wr => ∃ (i : Nat) (a1 : Option Addr) (c1 : Nat), s15 = .int .i64 i ∧ i ≤ n ∧ p + 1 ≤ wr.heap.size ∧ Below w.heap.size w wr ∧ Hid (OwnI 2 wr (p + 1) a1 i c1 (List.replicate i (3 * (B : Int)))) ∧ Hid (OwnI 2 wr w.heap.size a2 n c2 l) ∧ Hid (Blk wr p #[.slice a1 i c1, .slice a2 n c2, .slice none 0 0] 44) ∧ Hid (Blk wr w.heap.size #[.int .i64 (B : Int), .slice a n c, .int .i64 (bud : Int), .bool sec] 90) ∧ Hid (Blk wr (w.heap.size + 1) #[.slice none 0 0, .slice none 0 0, .slice none 0 0] 44)) (fun s15 _ => n - (intOf s15).toNat)
  case atStart => exact ⟨0, none, 0, rfl, by omega, hsM, hBM, Lib.hid (OwnI.nil _ _ _), T, M0, X, R⟩
  case round =>
    clear X R T M0 hBM hsM
    obtain ⟨i, a1, c1, rfl, hi, hsr, hbl, S, T, M, X, R⟩ := hrel
    by_cases hlt : i < n
    · have hlt' : (i : Int) < (n : Int) := by omega
      have x0 := X.out.cell 0
      have xl := X.out.lt
      have m0 := M.out.cell 0
      have ml := M.out.lt
      simp at x0 m0
      go_wp2_with (at_builtin; refine appI1 rfl _ _ rfl Tryz.underlying22 Tryz.infoi64 (p + 1) _ _ _ _ S.out rfl _ rfl rfl (by first | assumption | decide | (unfold I64; omega)) (by omega) (by omega) ?_; intro g' c3 wn ho hb ht hat hsn; have X' := Lib.hid (X.out.keepA ht (blk_ne X.out S.out.typ (by decide))); have R' := Lib.hid (R.out.keepA ht (blk_ne R.out S.out.typ (by decide))); have hM := M.out.keepA ht (blk_ne M.out S.out.typ (by decide)); have T' := Lib.hid (T.out.keepT ht (fun g e e' => by have h1 := HP2.out g e; have h2 := (S.out.blk g e').1; omega)); have m0' := hM.cell 0; have ml' := hM.lt; have mf' := hM.free; simp at m0'; have M' := Lib.hid hM; have S' := Lib.hid ho; have hbl' : Below w.heap.size w wn := ht.below hbl (by omega) (fun b e => by have := (S.out.blk b e).1; omega); clear ho hb ht hat hM x0 xl m0 ml)
      go_roundw
      case rel =>
        refine ⟨i + 1, some ⟨g', 0, none⟩, c3, rfl, by omega, by simp; omega, by repeat (first | exact Below.refl _ _ | assumption | refine below_allocS ?_ _ | refine below_callS ?_ (by assumption) | (refine Below.alloc ?_ (by first | omega | (simp; done) | (simp; omega)) _) | (refine Below.setCell ?_ (by first | omega | (simp; done) | (simp; omega)) _) | refine Below.drew ?_ | refine below_drewN ?_ _ | (refine below_call ?_ (by assumption) (by first | omega | (simp; done) | (simp; omega))) | (refine Below.trans ?_ (by assumption))), Lib.hid ?_, Lib.hid ?_, Lib.hid ?_, Lib.hid ?_, Lib.hid ?_⟩
        · rw [← rep_snoc]; exact S'.out.set1 (fun e => by have := (S'.out.blk _ e).1; omega)
        · exact T'.out.set1 (fun e => by have := HP2.out _ e; omega)
        · have h1 := M'.out.wr 0 (.slice (some ⟨g', 0, none⟩) (i + 1) c3); simpa using h1
        · exact X'.out.set1 (by omega)
        · exact R'.out.set1 (by omega)
      case measure => simp [intOf]; omega
    · obtain rfl : n = i := by omega
      have hlt' : ¬ (n : Int) < (n : Int) := by omega
      have x0 := X.out.cell 0
      have x1 := X.out.cell 1
      have x2 := X.out.cell 2
      have xl := X.out.lt
      simp at x0 x1 x2
      have HAp := Lib.hid (show Apart a1 a2 from fun g e e' => by have h1 := (S.out.blk g e).1; have h2 := HP2.out g e'; omega)
      go_wp2_with fail
      clear x0 x1 x2 xl
      obtain ⟨wo, rfl⟩ : ∃ wo : World, wo = wr := ⟨_, rfl⟩
      go_loopw [30] (fun s30 wr => ∃ (i : Nat) (a1 : Option Addr) (c1 : Nat) (a2 : Option Addr) (c2 : Nat), s30 = .int .i64 i ∧ i ≤ B ∧ p + 1 ≤ wr.heap.size ∧ Below w.heap.size w wr ∧ Hid (OwnI 2 wr (w.heap.size + 2) a1 (n + i) c1 (List.replicate n (3 * (B : Int)) ++ List.replicate i 4)) ∧ Hid (OwnI 2 wr w.heap.size a2 (n + i) c2 (l ++ List.replicate i 0)) ∧ Hid (Apart a1 a2) ∧ Hid (Blk wr p #[.slice a1 (n + i) c1, .slice a2 (n + i) c2, .slice none 0 0] 44) ∧ Hid (Blk wr w.heap.size #[.int .i64 (B : Int), .slice a n c, .int .i64 (bud : Int), .bool sec] 90) ∧ Hid (Blk wr (w.heap.size + 1) #[.slice none 0 0, .slice none 0 0, .slice none 0 0] 44)) (fun s30 _ => B - (intOf s30).toNat)
      case atStart => exact ⟨0, a1, c1, a2, c2, rfl, by omega, hsr, hbl, Lib.hid (by simpa using S.out.le (by omega)), Lib.hid (by simpa using T.out), HAp, M, X, R⟩
      case round =>
        clear X R T M S HAp hbl hsr HP2
        obtain ⟨i, a1, c1, a2, c2, rfl, hi, hsr, hbl, S, T, HAp, M, X, R⟩ := hrel
        have hsz := hbl.size
        by_cases hlt : i < B
        · have hlt' : (i : Int) < (B : Int) := by omega
          have m0 := M.out.cell 0
          have ml := M.out.lt
          simp at m0
          go_wp2_with (at_builtin; refine appI1 rfl _ _ rfl Tryz.underlying22 Tryz.infoi64 (w.heap.size + 2) _ _ _ _ S.out rfl _ rfl rfl (by first | assumption | decide | (unfold I64; omega)) (by omega) (by omega) ?_; intro g' c3 wn ho hb ht hat hsn; have X' := Lib.hid (X.out.keepA ht (blk_ne X.out S.out.typ (by decide))); have R' := Lib.hid (R.out.keepA ht (blk_ne R.out S.out.typ (by decide))); have hM := M.out.keepA ht (blk_ne M.out S.out.typ (by decide)); have T' := Lib.hid (T.out.keepT ht (fun g e e' => HAp.out g e' e)); have HAp' := Lib.hid (show Apart (some ⟨g', 0, none⟩) a2 from fun g e e' => by cases e; rcases hat with h0 | h0; exact HAp.out _ h0 e'; have h2 := (T.out.blk _ e').2; omega); have m0' := hM.cell 0; have m1' := hM.cell 1; have ml' := hM.lt; have mf' := hM.free; simp at m0' m1'; have M' := Lib.hid hM; have S' := Lib.hid ho; have hbl' : Below w.heap.size w wn := ht.below hbl (by omega) (fun b e => by have := (S.out.blk b e).1; omega); clear ho hb ht hat hM m0 ml; refine Hid.out ?_)
          have S2 := Lib.hid (S'.out.set1 (i := 0) (v := .slice (some ⟨g', 0, none⟩) (n + i + 1) c3) (blk_ne M'.out S'.out.typ (by decide)))
          have T2 := Lib.hid (T'.out.set1 (i := 0) (v := .slice (some ⟨g', 0, none⟩) (n + i + 1) c3) (blk_ne M'.out T'.out.typ (by decide)))
          have X2 := Lib.hid (X'.out.set1 (i := 0) (v := .slice (some ⟨g', 0, none⟩) (n + i + 1) c3) (show w.heap.size ≠ p by omega))
          have R2 := Lib.hid (R'.out.set1 (i := 0) (v := .slice (some ⟨g', 0, none⟩) (n + i + 1) c3) (show w.heap.size + 1 ≠ p by omega))
          have M2 := Lib.hid (show Blk (wn.setCell ⟨p, 0, none⟩ (.slice (some ⟨g', 0, none⟩) (n + i + 1) c3)) p #[.slice (some ⟨g', 0, none⟩) (n + i + 1) c3, .slice a2 (n + i) c2, .slice none 0 0] 44 from M'.out.wr 0 (.slice (some ⟨g', 0, none⟩) (n + i + 1) c3))
          have hbl2 : Below w.heap.size w (wn.setCell ⟨p, 0, none⟩ (.slice (some ⟨g', 0, none⟩) (n + i + 1) c3)) := by repeat (first | exact Below.refl _ _ | assumption | refine below_allocS ?_ _ | refine below_callS ?_ (by assumption) | (refine Below.alloc ?_ (by first | omega | (simp; done) | (simp; omega)) _) | (refine Below.setCell ?_ (by first | omega | (simp; done) | (simp; omega)) _) | refine Below.drew ?_ | refine below_drewN ?_ _ | (refine below_call ?_ (by assumption) (by first | omega | (simp; done) | (simp; omega))) | (refine Below.trans ?_ (by assumption)))
          have hs2 : p + 1 ≤ (wn.setCell ⟨p, 0, none⟩ (.slice (some ⟨g', 0, none⟩) (n + i + 1) c3)).heap.size := by simp; omega
          have HA2 := Lib.hid HAp'.out
          clear S' T' X' R' M' HAp' S T X R M HAp
          refine Lib.hid ?_
          go_wp2_with (at_builtin; refine appI1 rfl _ _ rfl Tryz.underlying22 Tryz.infoi64 w.heap.size _ _ _ _ T2.out rfl _ (by first | rfl | simp) (by first | rfl | simp) (by first | assumption | decide | (unfold I64; omega)) (by omega) (by simp; omega) ?_; intro g2 c4 wq ho hb ht hat hsn; have X' := Lib.hid (X2.out.keepA ht (blk_ne X2.out T2.out.typ (by decide))); have R' := Lib.hid (R2.out.keepA ht (blk_ne R2.out T2.out.typ (by decide))); have hM := M2.out.keepA ht (blk_ne M2.out T2.out.typ (by decide)); have S' := Lib.hid (S2.out.keepT ht (fun g e e' => HA2.out g e e')); have HAp' := Lib.hid (show Apart (some ⟨g', 0, none⟩) (some ⟨g2, 0, none⟩) from fun g e e' => by cases e; rcases hat with h0 | h0; exact HA2.out _ rfl (h0.trans e'); cases e'; have h2 := (S2.out.blk _ rfl).2; omega); have m1' := hM.cell 1; have ml' := hM.lt; have mf' := hM.free; simp at m1'; have M' := Lib.hid hM; have T' := Lib.hid ho; have hbl' : Below w.heap.size w wq := ht.below hbl2 (by omega) (fun b e => by have := (T2.out.blk b e).1; omega); clear ho hb ht hat hM)
          go_roundw
          case rel =>
            refine ⟨i + 1, some ⟨g', 0, none⟩, c3, some ⟨g2, 0, none⟩, c4, rfl, by omega, by simp; omega, by repeat (first | exact Below.refl _ _ | assumption | refine below_allocS ?_ _ | refine below_callS ?_ (by assumption) | (refine Below.alloc ?_ (by first | omega | (simp; done) | (simp; omega)) _) | (refine Below.setCell ?_ (by first | omega | (simp; done) | (simp; omega)) _) | refine Below.drew ?_ | refine below_drewN ?_ _ | (refine below_call ?_ (by assumption) (by first | omega | (simp; done) | (simp; omega))) | (refine Below.trans ?_ (by assumption))), Lib.hid ?_, Lib.hid ?_, HAp', Lib.hid ?_, Lib.hid ?_, Lib.hid ?_⟩
            · rw [← rep_snoc, ← List.append_assoc]; exact S'.out.set1 (blk_ne M'.out S'.out.typ (by decide))
            · rw [← rep_snoc, ← List.append_assoc]; exact T'.out.set1 (blk_ne M'.out T'.out.typ (by decide))
            · exact M'.out.wr 1 (.slice (some ⟨g2, 0, none⟩) (n + i + 1) c4)
            · exact X'.out.set1 (by omega)
            · exact R'.out.set1 (by omega)
          case measure => simp [intOf]; omega
        · obtain rfl : B = i := by omega
          have hlt' : ¬ (B : Int) < (B : Int) := by omega
          have m0 := M.out.cell 0
          have ml := M.out.lt
          have x2 := X.out.cell 2
          have xl := X.out.lt
          simp at m0 x2
          go_wp2_with (at_builtin; refine appI1 rfl _ _ rfl Tryz.underlying22 Tryz.infoi64 (w.heap.size + 2) _ _ _ _ S.out rfl _ rfl rfl (by first | assumption | decide | (unfold I64; omega)) (by omega) (by omega) ?_; intro g' c3 wn ho hb ht hat hsn; have X' := Lib.hid (X.out.keepA ht (blk_ne X.out S.out.typ (by decide))); have R' := Lib.hid (R.out.keepA ht (blk_ne R.out S.out.typ (by decide))); have hM := M.out.keepA ht (blk_ne M.out S.out.typ (by decide)); have T' := Lib.hid (T.out.keepT ht (fun g e e' => HAp.out g e' e)); have HAp' := Lib.hid (show Apart (some ⟨g', 0, none⟩) a2 from fun g e e' => by cases e; rcases hat with h0 | h0; exact HAp.out _ h0 e'; have h2 := (T.out.blk _ e').2; omega); have m0' := hM.cell 0; have m1' := hM.cell 1; have ml' := hM.lt; have mf' := hM.free; have hX := X'.out.cell 2; have xl' := X'.out.lt; simp at m0' m1' hX; have M' := Lib.hid hM; have S' := Lib.hid ho; have hbl' : Below w.heap.size w wn := ht.below hbl (by omega) (fun b e => by have := (S.out.blk b e).1; omega); clear ho hb ht hat hM m0 ml x2 xl; refine Hid.out ?_)
          have S2 := Lib.hid (S'.out.set1 (i := 0) (v := .slice (some ⟨g', 0, none⟩) (n + B + 1) c3) (blk_ne M'.out S'.out.typ (by decide)))
          have T2 := Lib.hid (T'.out.set1 (i := 0) (v := .slice (some ⟨g', 0, none⟩) (n + B + 1) c3) (blk_ne M'.out T'.out.typ (by decide)))
          have X2 := Lib.hid (X'.out.set1 (i := 0) (v := .slice (some ⟨g', 0, none⟩) (n + B + 1) c3) (show w.heap.size ≠ p by omega))
          have R2 := Lib.hid (R'.out.set1 (i := 0) (v := .slice (some ⟨g', 0, none⟩) (n + B + 1) c3) (show w.heap.size + 1 ≠ p by omega))
          have M2 := Lib.hid (show Blk (wn.setCell ⟨p, 0, none⟩ (.slice (some ⟨g', 0, none⟩) (n + B + 1) c3)) p #[.slice (some ⟨g', 0, none⟩) (n + B + 1) c3, .slice a2 (n + B) c2, .slice none 0 0] 44 from M'.out.wr 0 (.slice (some ⟨g', 0, none⟩) (n + B + 1) c3))
          have hbl2 : Below w.heap.size w (wn.setCell ⟨p, 0, none⟩ (.slice (some ⟨g', 0, none⟩) (n + B + 1) c3)) := by repeat (first | exact Below.refl _ _ | assumption | refine below_allocS ?_ _ | refine below_callS ?_ (by assumption) | (refine Below.alloc ?_ (by first | omega | (simp; done) | (simp; omega)) _) | (refine Below.setCell ?_ (by first | omega | (simp; done) | (simp; omega)) _) | refine Below.drew ?_ | refine below_drewN ?_ _ | (refine below_call ?_ (by assumption) (by first | omega | (simp; done) | (simp; omega))) | (refine Below.trans ?_ (by assumption)))
          have hs2 : p + 1 ≤ (wn.setCell ⟨p, 0, none⟩ (.slice (some ⟨g', 0, none⟩) (n + B + 1) c3)).heap.size := by simp; omega
          have HA2 := Lib.hid HAp'.out
          clear S' T' X' R' M' HAp' S T X R M HAp
          refine Lib.hid ?_
          go_wp2_with (at_builtin; refine appI1 rfl _ _ rfl Tryz.underlying22 Tryz.infoi64 w.heap.size _ _ _ _ T2.out rfl _ (by first | rfl | simp) (by first | rfl | simp) (by first | assumption | decide | (unfold I64; omega)) (by omega) (by simp; omega) ?_; intro g2 c4 wq ho hb ht hat hsn; have X' := Lib.hid (X2.out.keepA ht (blk_ne X2.out T2.out.typ (by decide))); have R' := Lib.hid (R2.out.keepA ht (blk_ne R2.out T2.out.typ (by decide))); have hM := M2.out.keepA ht (blk_ne M2.out T2.out.typ (by decide)); have S' := Lib.hid (S2.out.keepT ht (fun g e e' => HA2.out g e e')); have HAp' := Lib.hid (show Apart (some ⟨g', 0, none⟩) (some ⟨g2, 0, none⟩) from fun g e e' => by cases e; rcases hat with h0 | h0; exact HA2.out _ rfl (h0.trans e'); cases e'; have h2 := (S2.out.blk _ rfl).2; omega); have m1' := hM.cell 1; have ml' := hM.lt; have mf' := hM.free; simp at m1'; have M' := Lib.hid hM; have T' := Lib.hid ho; have hbl' : Below w.heap.size w wq := ht.below hbl2 (by omega) (fun b e => by have := (T2.out.blk b e).1; omega); clear ho hb ht hat hM; refine Hid.out ?_)
          have S3 := Lib.hid (S'.out.set1 (i := 1) (v := .slice (some ⟨g2, 0, none⟩) (n + B + 1) c4) (blk_ne M'.out S'.out.typ (by decide)))
          have T3 := Lib.hid (T'.out.set1 (i := 1) (v := .slice (some ⟨g2, 0, none⟩) (n + B + 1) c4) (blk_ne M'.out T'.out.typ (by decide)))
          have X3 := Lib.hid (X'.out.set1 (i := 1) (v := .slice (some ⟨g2, 0, none⟩) (n + B + 1) c4) (show w.heap.size ≠ p by omega))
          have R3 := Lib.hid (R'.out.set1 (i := 1) (v := .slice (some ⟨g2, 0, none⟩) (n + B + 1) c4) (show w.heap.size + 1 ≠ p by omega))
          have M3 := Lib.hid (show Blk (wq.setCell ⟨p, 1, none⟩ (.slice (some ⟨g2, 0, none⟩) (n + B + 1) c4)) p #[.slice (some ⟨g', 0, none⟩) (n + B + 1) c3, .slice (some ⟨g2, 0, none⟩) (n + B + 1) c4, .slice none 0 0] 44 from M'.out.wr 1 (.slice (some ⟨g2, 0, none⟩) (n + B + 1) c4))
          have hbl3 : Below w.heap.size w (wq.setCell ⟨p, 1, none⟩ (.slice (some ⟨g2, 0, none⟩) (n + B + 1) c4)) := by repeat (first | exact Below.refl _ _ | assumption | refine below_allocS ?_ _ | refine below_callS ?_ (by assumption) | (refine Below.alloc ?_ (by first | omega | (simp; done) | (simp; omega)) _) | (refine Below.setCell ?_ (by first | omega | (simp; done) | (simp; omega)) _) | refine Below.drew ?_ | refine below_drewN ?_ _ | (refine below_call ?_ (by assumption) (by first | omega | (simp; done) | (simp; omega))) | (refine Below.trans ?_ (by assumption)))
          have hs3 : p + 1 ≤ (wq.setCell ⟨p, 1, none⟩ (.slice (some ⟨g2, 0, none⟩) (n + B + 1) c4)).heap.size := by simp; simp at hsn hs2; omega
          have x0 := X'.out.cell 0
          have x1 := X'.out.cell 1
          have x2 := X'.out.cell 2
          have x3 := X'.out.cell 3
          have xl := X'.out.lt
          simp at x0 x1 x2 x3
          clear S2 T2 X2 R2 M2 HA2
          refine Lib.hid ?_
          go_wp2_with fail
          clear x0 x1 x2 x3 xl m1' ml' mf' S' T' X' R' M' hX xl' m0'
          refine Calls.mono (impl_rules (HT.out.keep (by repeat (first | exact Below.refl _ _ | assumption | refine below_allocS ?_ _ | refine below_callS ?_ (by assumption) | (refine Below.alloc ?_ (by first | omega | (simp; done) | (simp; omega)) _) | (refine Below.setCell ?_ (by first | omega | (simp; done) | (simp; omega)) _) | refine Below.drew ?_ | refine below_drewN ?_ _ | (refine below_call ?_ (by assumption) (by first | omega | (simp; done) | (simp; omega))) | (refine Below.trans ?_ (by assumption))))) hB hB8 hn hbud) ?_
          rintro e w4 ⟨a4, m, c5, L, rfl, hR, hm, hb4⟩
          have hs4 := hb4.size
          simp at hs4
          replace S3 := Lib.hid (S3.out.keep hb4)
          replace T3 := Lib.hid (T3.out.keep hb4)
          replace X3 := Lib.hid (X3.out.keep hb4)
          replace R3 := Lib.hid (R3.out.keep hb4)
          replace M3 := Lib.hid (M3.out.keep hb4)
          have hbl4 : Below w.heap.size w w4 := below_callS hbl3 hb4
          have hsq := hbl'.size
          have hwq : p < wq.heap.size + 1 := by simp at hs3; omega
          obtain ⟨b4, h4b, HRL⟩ : ∃ b4, p < b4 ∧ Hid (RL w4 b4 a4 m c5 L (rulesS n B bud sec)) := ⟨_, by simp; omega, Lib.hid hR⟩
          have HS := Lib.hid (rulesS_ok (n := n) (B := B) (bud := bud) (sec := sec) hn)
          have HRs : Hid (rideRs n B bud sec = (rulesS n B bud sec).map ruD) := Lib.hid rfl
          generalize rulesS n B bud sec = RS0 at *
          have HLL := Lib.hid HRL.out.rds.len
          have HLm := Lib.hid HRL.out.own.len
          have HZl := Lib.hid (show (zipR L RS0).length = m by rw [zipR_len HLL.out]; exact HLm.out)
          have hps : p < w4.heap.size := M3.out.lt
          clear hR hb4 hbl3 hs3 hs2 hs4 hsn hbl2 hbl' hwq hsq
          have hsw4 := hbl4.size
          go_wp2_with fail
          obtain ⟨wp, rfl⟩ : ∃ wp : World, wp = w4 := ⟨_, rfl⟩
          go_loopw [61] (fun s61 wr => ∃ (j : Nat) (a3 : Option Addr) (c6 : Nat), s61 = .int .i64 j ∧ j ≤ m ∧ wp.heap.size ≤ wr.heap.size ∧ Below w.heap.size w wr ∧ Hid (Only p (p + 1) wp wr) ∧ Hid (OwnF 3 encR (fun _ => True) 98 wr wp.heap.size a3 j c6 ((zipR L RS0).take j)) ∧ Hid (Blk wr p #[.slice (some ⟨g', 0, none⟩) (n + B + 1) c3, .slice (some ⟨g2, 0, none⟩) (n + B + 1) c4, .slice a3 j c6] 44)) (fun s61 _ => m - (intOf s61).toNat)
          case atStart => exact ⟨0, none, 0, rfl, by omega, Nat.le_refl _, hbl4, Lib.hid (Only.refl _ _ _), Lib.hid (OwnF.nil encR_len _ _ _), M3⟩
          case round =>
            obtain ⟨j, a3, c6, rfl, hj, hsr, hbl, HO, Z, M⟩ := hrel
            by_cases hjm : j < m
            · have hjm' : (j : Int) < (m : Int) := by omega
              have hj0 : (0 : Int) ≤ (j : Int) := by omega
              obtain ⟨b5, off, x, rfl, hb5, hx, k0, k1, k2, k3, k4, k5⟩ := F6.get (HRL.out.only HO.out h4b).own.flats hjm
              have hjS : j < RS0.length := by have h1 := HLL.out; have h2 := HLm.out; omega
              have hs9 : RS0[j]? = some RS0[j] := List.getElem?_eq_getElem hjS
              obtain ⟨s9, hs9'⟩ : ∃ s9, RS0[j]? = some s9 := ⟨_, hs9⟩
              have Hz := Lib.hid (show (zipR L RS0)[j]? = some (rmR x, ruD s9) by rw [zipR, List.getElem?_map, (List.getElem?_zip_eq_some (z := (x, s9))).2 ⟨hx, hs9'⟩]; rfl)
              have m2 := M.out.cell 2
              have ml := M.out.lt
              simp at m2
              clear hx hs9 hs9' hjS
              go_wp2_with (at_builtin; refine appAtL (enc := encR) (ok := fun _ => True) rfl _ _ rfl Tryz.underlying42 Tryz.infoRule rfl (by decide) (by decide) encR_one wp.heap.size _ _ _ _ [(rmR x, ruD s9)] (Z.out.keep (by repeat (first | exact Below.refl _ _ | assumption | refine below_allocS ?_ _ | refine below_callS ?_ (by assumption) | (refine Below.alloc ?_ (by first | omega | (simp; done) | (simp; omega)) _) | (refine Below.setCell ?_ (by first | omega | (simp; done) | (simp; omega)) _) | refine Below.drew ?_ | refine below_drewN ?_ _ | (refine below_call ?_ (by assumption) (by first | omega | (simp; done) | (simp; omega))) | (refine Below.trans ?_ (by assumption))))) rfl _ rfl (by first | rfl | simp) (by first | rfl | simp [encR, RM.enc, rmR]) rfl (fun _ _ => trivial) (by decide) (by omega) (by decide) (by simp; omega) ?_; intro g9 c9 wn ho hb hg hat hsn; have HOn := Lib.hid ((HO.out.alloc _).thenB hb); have hM := (M.out.keep (show Below wr.heap.size wr (wr.alloc (.cells #[.string x.nm, .slice x.ga x.gn x.gc, .slice x.ea x.en x.ec, .int .i64 x.x.a, .int .i64 x.x.b, .int .i64 x.x.c] 117)) by repeat (first | exact Below.refl _ _ | assumption | refine below_allocS ?_ _ | refine below_callS ?_ (by assumption) | (refine Below.alloc ?_ (by first | omega | (simp; done) | (simp; omega)) _) | (refine Below.setCell ?_ (by first | omega | (simp; done) | (simp; omega)) _) | refine Below.drew ?_ | refine below_drewN ?_ _ | (refine below_call ?_ (by assumption) (by first | omega | (simp; done) | (simp; omega))) | (refine Below.trans ?_ (by assumption))))).keepG hg (fun e => blk_ne M.out Z.out.typ (by decide) (own_block Z.out.1 _ e)); have m2' := hM.cell 2; have ml' := hM.lt; have mf' := hM.free; simp at m2'; have M' := Lib.hid hM; have Z' := Lib.hid ho; have hbl' : Below w.heap.size w wn := Below.trans (show Below w.heap.size w (wr.alloc (.cells #[.string x.nm, .slice x.ga x.gn x.gc, .slice x.ea x.en x.ec, .int .i64 x.x.a, .int .i64 x.x.b, .int .i64 x.x.c] 117)) by repeat (first | exact Below.refl _ _ | assumption | refine below_allocS ?_ _ | refine below_callS ?_ (by assumption) | (refine Below.alloc ?_ (by first | omega | (simp; done) | (simp; omega)) _) | (refine Below.setCell ?_ (by first | omega | (simp; done) | (simp; omega)) _) | refine Below.drew ?_ | refine below_drewN ?_ _ | (refine below_call ?_ (by assumption) (by first | omega | (simp; done) | (simp; omega))) | (refine Below.trans ?_ (by assumption)))) (hb.mono hsw4); have hs7 := hb.size; simp at hs7; clear ho hb hg hat hsn hM)
              go_roundw
              case rel =>
                refine ⟨j + 1, some ⟨g9, 0, none⟩, c9, rfl, by omega, by simp; omega, by repeat (first | exact Below.refl _ _ | assumption | refine below_allocS ?_ _ | refine below_callS ?_ (by assumption) | (refine Below.alloc ?_ (by first | omega | (simp; done) | (simp; omega)) _) | (refine Below.setCell ?_ (by first | omega | (simp; done) | (simp; omega)) _) | refine Below.drew ?_ | refine below_drewN ?_ _ | (refine below_call ?_ (by assumption) (by first | omega | (simp; done) | (simp; omega))) | (refine Below.trans ?_ (by assumption))), Lib.hid (HOn.out.set ⟨Nat.le_refl _, by omega⟩ _ _), Lib.hid ?_, Lib.hid ?_⟩
                · rw [take_at Hz.out]; exact Z'.out.set1 (fun e => by have := (Z'.out.blk _ e).1; omega)
                · exact M'.out.wr 2 (.slice (some ⟨g9, 0, none⟩) (j + 1) c9)
              case measure => simp [intOf]; omega
            · obtain rfl : m = j := by omega
              have hjm' : ¬ (m : Int) < (m : Int) := by omega
              have hR := R3.out.apart HO.out (.inl (by omega))
              have r0 := hR.cell 0
              have r1 := hR.cell 1
              have r2 := hR.cell 2
              have rl := hR.lt
              have rf := hR.free
              have m0 := M.out.cell 0
              have m1 := M.out.cell 1
              have m2 := M.out.cell 2
              have ml := M.out.lt
              simp at r0 r1 r2 m0 m1 m2
              have HR := Lib.hid hR
              clear hR
              go_wp2
              have HF : Hid (MOwn (((wr.setCell ⟨w.heap.size + 1, 0, none⟩ (.slice (some ⟨g', 0, none⟩) (n + B + 1) c3)).setCell ⟨w.heap.size + 1, 1, none⟩ (.slice (some ⟨g2, 0, none⟩) (n + B + 1) c4)).setCell ⟨w.heap.size + 1, 2, none⟩ (.slice a3 m c6)) w.heap.size ((((wr.setCell ⟨w.heap.size + 1, 0, none⟩ (.slice (some ⟨g', 0, none⟩) (n + B + 1) c3)).setCell ⟨w.heap.size + 1, 1, none⟩ (.slice (some ⟨g2, 0, none⟩) (n + B + 1) c4)).setCell ⟨w.heap.size + 1, 2, none⟩ (.slice a3 m c6))).heap.size (some ⟨g', 0, none⟩) (n + B + 1) c3 (some ⟨g2, 0, none⟩) (n + B + 1) c4 a3 m c6 (rideSz n B bud) (rideSt l B bud) (rideRs n B bud sec) ∧ Below w.heap.size w (((wr.setCell ⟨w.heap.size + 1, 0, none⟩ (.slice (some ⟨g', 0, none⟩) (n + B + 1) c3)).setCell ⟨w.heap.size + 1, 1, none⟩ (.slice (some ⟨g2, 0, none⟩) (n + B + 1) c4)).setCell ⟨w.heap.size + 1, 2, none⟩ (.slice a3 m c6))) := by
                refine Lib.hid ?_
                obtain ⟨wF, hwF⟩ : ∃ wF : World, wF = (((wr.setCell ⟨w.heap.size + 1, 0, none⟩ (.slice (some ⟨g', 0, none⟩) (n + B + 1) c3)).setCell ⟨w.heap.size + 1, 1, none⟩ (.slice (some ⟨g2, 0, none⟩) (n + B + 1) c4)).setCell ⟨w.heap.size + 1, 2, none⟩ (.slice a3 m c6)) := ⟨_, rfl⟩
                have hF : Only (w.heap.size + 1) (w.heap.size + 2) wr wF := by rw [hwF]; repeat (first | with_reducible exact Only.refl _ _ _ | with_reducible assumption | with_reducible refine Only.set ?_ (by first | omega | (simp; omega)) _ _ | with_reducible refine Only.setN ?_ (by first | omega | (simp; omega)) _ _ | with_reducible refine Only.alloc ?_ _ | with_reducible refine Only.drew ?_ | with_reducible refine Only.drewN ?_ _ | with_reducible refine Only.then ?_ (by assumption) | with_reducible refine Only.trans ?_ (by assumption))
                have hBF : Below w.heap.size w wF := by rw [hwF]; repeat (first | exact Below.refl _ _ | assumption | refine below_allocS ?_ _ | refine below_callS ?_ (by assumption) | (refine Below.alloc ?_ (by first | omega | (simp; done) | (simp; omega)) _) | (refine Below.setCell ?_ (by first | omega | (simp; done) | (simp; omega)) _) | refine Below.drew ?_ | refine below_drewN ?_ _ | (refine below_call ?_ (by assumption) (by first | omega | (simp; done) | (simp; omega))) | (refine Below.trans ?_ (by assumption)))
                rw [← hwF]
                have hs8 := hF.size
                have Sr := S3.out.only HO.out (fun g e => by have h1 := blk_ne M3.out S3.out.typ (by decide); by_cases hg : g = p; (subst hg; exact (h1 e).elim); omega)
                have Tr := T3.out.only HO.out (fun g e => by have h1 := blk_ne M3.out T3.out.typ (by decide); by_cases hg : g = p; (subst hg; exact (h1 e).elim); omega)
                have SF := Sr.only hF (fun g e => by have := (Sr.blk g e).1; omega)
                have TF := Tr.only hF (fun g e => by have h1 := blk_ne HR.out Tr.typ (by decide); by_cases hg : g = w.heap.size + 1; (subst hg; exact (h1 e).elim); omega)
                have RLr := HRL.out.only HO.out h4b
                have RLF : RL wF b4 a4 m c5 L RS0 := by
                  refine ⟨RLr.own.only hF (fun g e => .inr (by have := (RLr.own.blk g e).1; omega)), RDs.here (lo := b4) (hi := wr.heap.size) wr wF (fun k h1 h2 => hF.block k h2 (.inr (by omega))) RLr.rds RLr.bl, RLr.nd, fun b hb => ?_, RLr.ap⟩
                  have := RLr.bl b hb
                  omega
                have hZ := Z.out
                rw [List.take_of_length_le (by rw [HZl.out]; exact Nat.le_refl _)] at hZ
                have ZF := (hZ.only hF (fun g e => .inr (by have := (hZ.blk g e).1; omega))).le (show w.heap.size ≤ _ by omega)
                have hRO := rown_of RLF (show w.heap.size ≤ b4 by omega) HS.out ZF
                have hmR : (zipR L RS0).map (·.2) = rideRs n B bud sec := by rw [HRs.out]; exact zipR_map HLL.out
                have hSz : rideSz n B bud = List.replicate n (3 * (B : Int)) ++ List.replicate B 4 ++ [(bud : Int) + 1] := by rw [rideSz, List.append_assoc]
                have hSt : rideSt l B bud = l ++ List.replicate B 0 ++ [(bud : Int)] := by rw [rideSt, List.append_assoc]
                refine ⟨⟨?_, ?_, ⟨zipR L RS0, hRO, hRO.bd, hmR⟩, fun g e e' => ?_, (SF.le (by omega)).blk, (TF.le (Nat.le_refl _)).blk, by omega, by omega, by omega⟩, hBF⟩
                · rw [hSz]; exact SF.le (by omega)
                · rw [hSt]; exact TF
                · exact HAp'.out g e e'
              exact bodyPost_ret (v := .agg #[.slice (some ⟨g', 0, none⟩) (n + B + 1) c3, .slice (some ⟨g2, 0, none⟩) (n + B + 1) c4, .slice a3 m c6]) (by simp [results, Tryz.results58, go_sem, *]) rfl ⟨_, _, _, _, _, _, _, _, _, rfl, HF.out.1, HF.out.2⟩
end Go.Proofs.YtfnamjkmkoldeaaGreatDoor
