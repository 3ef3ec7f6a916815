/- ReadReplay of the reference, walked. -/
import Derived.Test.YtipkncjjkkijfaaDoorPq
import Derived.Test.YtipkncjjkkijfaaDoorAt
namespace Go.Proofs.YtipkncjjkkijfaaDoor
open Go.RowKit
set_option linter.unusedVariables false
set_option linter.unusedSimpArgs false
abbrev OwnE := OwnF 3 I3.enc I3.ok 40
theorem rd_take {f : List UInt8 → Option I3} {ps : List (List UInt8)} {L : List I3} {k : Nat} {p : List UInt8} {x : I3} (h : (ps.take k).map f = L.map some) (hp : ps[k]? = some p) (hx : f p = some x) : (ps.take (k + 1)).map f = (L ++ [x]).map some := by
  rw [take_at hp, List.map_append, h, List.map_append]
  simp [hx]
theorem rd_none {f : List UInt8 → Option I3} : ∀ {ps : List (List UInt8)} {p : List UInt8}, p ∈ ps → f p = none → rdAll f ps = none
  | [], p, h, _ => by cases h
  | q :: r, p, h, hn => by
    rw [rdAll]
    rcases List.mem_cons.1 h with rfl | h
    · rw [hn]
    · cases f q with
      | none => rfl
      | some e => simp only [rd_none h hn]
theorem rdE_ne {p : List UInt8} {x : I3} (h : rdE p = some x) : p ≠ [] := by
  rintro rfl
  cases h
theorem rd_short {ps : List (List UInt8)} {L : List I3} (h : ps.map rdE = L.map some) : ∀ p ∈ ps, p ≠ [] := by
  intro p hp
  have h1 : rdE p ∈ L.map some := by rw [← h]; exact List.mem_map_of_mem hp
  obtain ⟨x, _, hx⟩ := List.mem_map.1 h1
  exact rdE_ne hx.symm
theorem I3.one3 (y : I3) : ∀ u ∈ y.enc, u.oneCell' = true := fun u hu => by
  simp only [I3.enc, List.mem_cons, List.not_mem_nil, or_false] at hu
  rcases hu with rfl | rfl | rfl <;> rfl
theorem rrO_none {b : Int} {l : List Int} {s : List UInt8} (h : rdAll rdE (pcR s) = none) : rrO b l s = none := by rw [rrO, h]
theorem rrO_some {b : Int} {l : List Int} {s : List UInt8} {L : List I3} (h : rdAll rdE (pcR s) = some L) : rrO b l s = if rpC b l L = 0 then some L else none := by rw [rrO, h]
theorem OwnF.ty9 {α : Type} {k : Nat} {enc : α → List Value} {ok : α → Prop} {E : TypeId} {w : World} {base g : Nat} {a : Option Addr} {n c : Nat} {l : List α} (h : OwnF k enc ok E w base a n c l) (e : a = some ⟨g, 0, none⟩) : ∃ cur, w.heap[g]? = some (.cells cur E (0, 0)) := by
  rcases h.1.2 with ⟨he, _⟩ | ⟨q, cap, cur, he, _, hg, _⟩
  · simp only [Value.slice.injEq] at he
    rw [he.1] at e; cases e
  · simp only [Value.slice.injEq] at he
    rw [he.1] at e
    simp only [Option.some.injEq, Addr.mk.injEq, and_true] at e
    exact ⟨cur, by rw [← e]; exact hg⟩
theorem OwnF.same {α : Type} {k : Nat} {enc : α → List Value} {ok : α → Prop} {E : TypeId} {w w' : World} {base : Nat} {a : Option Addr} {n c : Nat} {l : List α} (h : OwnF k enc ok E w base a n c l) (hs : ∀ g, a = some ⟨g, 0, none⟩ → w'.heap[g]? = w.heap[g]?) : OwnF k enc ok E w' base a n c l := by
  obtain ⟨⟨hl, h2⟩, hw⟩ := h
  refine ⟨⟨hl, ?_⟩, hw⟩
  rcases h2 with h2 | ⟨g, cap, cur, he, hbs, hg, r⟩
  · exact .inl h2
  · have he' := he
    simp only [Value.slice.injEq] at he'
    exact .inr ⟨g, cap, cur, he, hbs, by rw [hs g he'.1]; exact hg, r⟩
/-- blocks of other types are as they were -/
def OthT (e : TypeId) (w w' : World) : Prop := ∀ (g : Nat) (cur : Array Value) (T : TypeId), w.heap[g]? = some (.cells cur T (0, 0)) → T ≠ e → w'.heap[g]? = w.heap[g]?
theorem Blk.oth {w w' : World} {b : Nat} {cs : Array Value} {T e : TypeId} (h : Blk w b cs T) (ho : OthT e w w') (hT : T ≠ e) : Blk w' b cs T := (ho b cs T h hT).trans h
theorem OwnF.oth {α : Type} {k : Nat} {enc : α → List Value} {ok : α → Prop} {E e : TypeId} {w w' : World} {base : Nat} {a : Option Addr} {n c : Nat} {l : List α} (h : OwnF k enc ok E w base a n c l) (ho : OthT e w w') (hE : E ≠ e) : OwnF k enc ok E w' base a n c l :=
  h.same fun g eg => by obtain ⟨cur, hc⟩ := h.ty9 eg; exact ho g cur E hc hE
theorem appTy {α : Type} {k : Nat} {enc : α → List Value} {ok : α → Prop} {zv : Value} {by' : Nat} {P : Program} {w w0 : World} {ops : Array Oper} {rest : List Oper} {o : Oper} {act : Act} {Q : Exit → Act → World → Prop} {cs : Array Value} {t e : TypeId} (y : α) (hgd : o.guard = none) (s x : Operand)
    (ho : o.op = .call { callee := .builtin .append, args := #[s, x], argTypes := #[t, t] }) (ht : P.underlying t = some (.slice e)) (hinfo : (P.info? e).map (fun i => (i.zero, i.size, i.bytes)) = some (some zv, k, by'))
    (hzs : zv.cells.size = k) (hk : 0 < k) (hby : by' ≤ 128) (hone : ∀ y : α, ∀ u ∈ enc y, u.oneCell' = true)
    (a : Option Addr) (n c : Nat) (l : List α) (hown : OwnF k enc ok e w w0.heap.size a n c l) (hs : act.eval s = .slice a n c) (gx : Nat) (hx : act.eval x = .slice (some ⟨gx, 0, none⟩) 1 1) (hg : gx = w.heap.size) (hcs : cs = (enc y).toArray) (hok2 : ok y)
    (hn : n ≤ 4194303) (hbase : Below w0.heap.size w0 w)
    (K : ∀ a' c' w', OwnF k enc ok e w' w0.heap.size a' (n + 1) c' (l ++ [y]) → Below w0.heap.size w0 w' → OthT e w w' → wpList P ops Q rest (act.put o.dst (.slice a' (n + 1) c')) w') : wpList P ops Q (o :: rest) act (w.alloc (.cells cs e)) := by
  refine appAtL (m := 1) (l2 := [y]) hgd s x ho ht hinfo hzs hk hby hone w0.heap.size a n c l hown hs gx hx hg (by rw [hcs]; simp) rfl (fun z hz => by simp at hz; rw [hz]; exact hok2) (by decide) (by omega) (by decide) hbase.size ?_
  intro g' c' w' h1 h2 h3 _ _
  refine K _ c' w' h1 (hbase.trans h2) ?_
  intro g cur T hh hT
  have hlt : g < w.heap.size := Nat.lt_of_not_le fun h => by rw [Array.getElem?_eq_none h] at hh; cases hh
  refine h3.block g hlt ?_
  intro eo
  have ha : a = some ⟨g, 0, none⟩ := by
    rcases hown.1.2 with ⟨he, _⟩ | ⟨q, cap, cu, he, _⟩
    · simp only [Value.slice.injEq] at he
      rw [he.1] at eo; simp [Value.ownBlock] at eo
    · simp only [Value.slice.injEq] at he
      obtain ⟨rfl, _⟩ := he
      simp [Value.ownBlock] at eo; rw [eo]
  obtain ⟨cur2, hc2⟩ := hown.ty9 ha
  rw [hh] at hc2
  simp only [Option.some.injEq, Obj.cells.injEq] at hc2
  exact hT hc2.2.1
theorem OwnE.nil (w : World) (base : Nat) : OwnE w base none 0 0 [] := ⟨World.ownsRow_nil w _ _ _, (fun _ h => by cases h), rfl, fun _ => rfl⟩
set_option maxHeartbeats 4000000 in
theorem spec_ReadReplay {b : Int} {a : Option Addr} {n c : Nat} {l : List Int} {s : ByteArray} {w : World} (hI : Ints w a n c l) (hn : n ≤ 1048576) (hz : s.size ≤ 1048576) :
    Calls Tryd.prog 5 #[.agg #[.int .i64 b, .slice a n c], .string s] w fun e w' => ∃ a' n' c', e = .returned (.tuple #[.slice a' n' c', .bool (rrO b l s.data.toList).isSome]) ∧ OwnE w' w.heap.size a' n' c' ((rrO b l s.data.toList).getD []) ∧ Below w.heap.size w w' := by
  obtain ⟨wA, hwA⟩ : ∃ v, v = (w.alloc (.cells #[.int .i64 b, .slice a n c] 29)).alloc (.cells #[] 40) := ⟨_, rfl⟩
  have hb0 : Below w.heap.size w (w.alloc (.cells #[.int .i64 b, .slice a n c] 29)) := below_alloc1 (Below.refl _ _) _
  have hs0 : (w.alloc (.cells #[.int .i64 b, .slice a n c] 29)).heap.size = w.heap.size + 1 := Array.size_push _
  have hbA : Below w.heap.size w wA := by rw [hwA]; exact below_callS hb0 (below_alloc1 (Below.refl _ _) _)
  have hsA : wA.heap.size = w.heap.size + 2 := by rw [hwA]; show (Array.push _ _).size = _; rw [Array.size_push]; omega
  have X0 := Lib.hid (show Blk wA w.heap.size #[.int .i64 b, .slice a n c] 29 by rw [hwA]; exact (Blk.made w _ _).keep (below_alloc1 (Below.refl _ _) _))
  have O0 := Lib.hid (show OwnE wA w.heap.size (some ⟨w.heap.size + 1, 0, none⟩) 0 0 [] by
    rw [hwA, ← hs0]
    exact (OwnF.emp (w.alloc (.cells #[.int .i64 b, .slice a n c] 29)) (by omega) (fun _ => rfl)))
  have HI := Lib.hid hI
  clear hI hb0 hs0
  by_cases h0 : s.size = 0
  · have hs : s.data.toList = [] := by
      have := str_len s
      exact List.length_eq_zero_iff.1 (by omega)
    have hse : (s.toList != []) = false := by rw [ByteArray.toList_eq, hs]; rfl
    have hse2 : s.toList.isEmpty = true := by rw [ByteArray.toList_eq, hs]; rfl
    have HR := Lib.hid (show rdAll rdE (pcR s.data.toList) = some [] by rw [hs]; rfl)
    have HR2 := Lib.hid (rrO_some (b := b) (l := l) HR.out)
    clear HR hs
    generalize rrO b l s.data.toList = R at *
    go_enter Tryd.func5, Tryd.ntmps5
    go_upto_region 11 with fail
    rw [← hwA]
    have hbZ := hbA
    have OZ := O0
    have XZ := X0
    clear hwA O0 X0
    have x0 := XZ.out.cell 0
    have x1 := XZ.out.cell 1
    have xl := XZ.out.lt
    simp only [List.getElem?_toArray, List.getElem?_cons_zero, List.getElem?_cons_succ] at x0 x1
    go_wp2_with fail
    refine Calls.mono (spec_l25Code (HI.out.keep hbZ) OZ.out.flats hn (by omega)) ?_
    rintro e wY ⟨rfl, hbY⟩
    have OY := Lib.hid (OZ.out.keep hbY)
    have BY := Lib.hid (below_callS hbZ hbY)
    by_cases hC : rpC b l [] = 0
    · have HR := Lib.hid (show R = some [] by rw [HR2.out, if_pos hC])
      rw [hC]
      clear HR2 hbY hbZ OZ
      go_wp2
      exact bodyPost_ret (v := .tuple #[.slice (some ⟨w.heap.size + 1, 0, none⟩) 0 0, .bool true]) (by simp [results, Tryd.results5, go_sem]) rfl ⟨_, _, _, by rw [HR.out]; rfl, by rw [HR.out]; exact OY.out, BY.out⟩
    · have HR := Lib.hid (show R = none by rw [HR2.out, if_neg hC])
      have hC' : (rpC b l [] != 0) = true := by simpa using hC
      clear HR2 hbY hbZ OZ
      go_wp2
      exact bodyPost_ret (v := .tuple #[.slice none 0 0, .bool false]) (by simp [results, Tryd.results5, go_sem]) rfl ⟨_, _, _, by rw [HR.out]; rfl, by rw [HR.out]; exact OwnE.nil _ _, BY.out⟩
  · have hs : s.data.toList ≠ [] := by
      have := str_len s
      intro h; rw [h] at this; simp at this; omega
    have hse : (s.toList != []) = true := by rw [ByteArray.toList_eq]; simpa using hs
    have hse2 : s.toList.isEmpty = false := by rw [ByteArray.toList_eq]; simpa using hs
    have hpc : pcR s.data.toList = pcs 59 s.data.toList := by rw [pcR, if_neg hs]
    have HS1 := Lib.hid (fun (h : rdAll rdE (pcR s.data.toList) = none) => rrO_none (b := b) (l := l) h)
    have HS2 := Lib.hid (fun (L : List I3) (h : rdAll rdE (pcR s.data.toList) = some L) => rrO_some (b := b) (l := l) h)
    have KS := Lib.hid (spec_l01Split (s := s) (d := 59) (w := wA) hz)
    have hpa := pcs_all 59 s.data.toList
    have hpl := pcs_len 59 s.data.toList
    have hcl := List.count_le_length (l := s.data.toList) (a := (59 : UInt8))
    have hsh := fun h => @pcs_short 59 s.data.toList h
    rw [str_len] at hpa hcl hsh
    rw [hpc] at HS1 HS2
    generalize rrO b l s.data.toList = R at *
    generalize pcs 59 s.data.toList = ps at *
    have HPA := Lib.hid hpa
    have HSH := Lib.hid hsh
    have hps : ps.length ≤ s.size + 1 := by omega
    clear hpa hsh hpl hcl hpc hs
    go_enter Tryd.func5, Tryd.ntmps5
    go_wp2_with fail
    rw [← hwA]
    clear hwA
    refine Calls.mono KS.out ?_
    rintro e w1 ⟨a1, n1, c1, rfl, ho, hb1⟩
    have hn1 := ho.len
    rw [List.length_map] at hn1
    have S1 := Lib.hid ho
    have X1 := Lib.hid (X0.out.keep hb1)
    have O1 := Lib.hid (O0.out.keep hb1)
    have B1 := below_callS hbA hb1
    have HN := Lib.hid hn1
    have hn1b : n1 ≤ 1048577 := by omega
    clear ho hb1 hn1 O0 X0 KS hbA
    go_wp2_with fail
    go_loopw [6, 8] (fun s6 s8 wr => ∃ (k q cq : Nat) (aq : Option Addr) (L : List I3), s6 = .slice aq q cq ∧ s8 = .int .i64 (k : Int) ∧ k ≤ n1 ∧ q ≤ k ∧ Below w.heap.size w wr ∧ Hid (OwnS wr wA.heap.size a1 n1 c1 (ps.map strL)) ∧ Hid (Blk wr w.heap.size #[.int .i64 b, .slice a n c] 29) ∧ Hid (OwnE wr w.heap.size aq q cq L) ∧ Hid ((ps.take k).map rdE = L.map some)) (fun _ s8 _ => n1 - (intOf s8).toNat)
    case atStart => exact ⟨0, 0, 0, _, [], rfl, rfl, by omega, by omega, B1, S1, X1, O1, Lib.hid rfl⟩
    case round =>
      clear O1 B1 S1 X1
      obtain ⟨k, q, cq, aq, L, rfl, rfl, hk, hqk, hbl, S, X, O, E⟩ := hrel
      by_cases hlt : k < n1
      · have hk0 : (0 : Int) ≤ (k : Int) := by omega
        have hlt' : (k : Int) < (n1 : Int) := by omega
        obtain ⟨g, off, x, ea, hg, hx, _, c0⟩ := S.out.flats.at hlt
        subst ea
        have c0 := c0 0 _ rfl
        simp only [Nat.mul_one, Nat.add_zero] at c0
        rw [List.getElem?_map] at hx
        obtain ⟨p, hp, hpx⟩ : ∃ p, ps[k]? = some p ∧ strL p = x := by
          cases h : ps[k]? with
          | none => rw [h] at hx; cases hx
          | some p => rw [h] at hx; exact ⟨p, rfl, by simpa using hx⟩
        have hmem := List.mem_of_getElem? hp
        have hpz := HPA.out p hmem
        have hxl : x.data.toList = p := by rw [← hpx, strL_list]
        have hxz : x.size ≤ 1048576 := by rw [← hpx, strL_size]; omega
        have KR := spec_l25Read (s := x) (w := wr) hxz
        rw [hxl] at KR
        have KR := Lib.hid KR
        have HP := Lib.hid hp
        have HNO := Lib.hid (fun h : rdE p = none => HS1.out (rd_none hmem h))
        have HTK := Lib.hid (fun (y : I3) (h : rdE p = some y) => rd_take E.out HP.out h)
        clear hx hp hmem hpz hxl hxz hpx
        go_wp2_with fail
        refine Calls.mono KR.out ?_
        rintro e w2 ⟨y, rfl, hy, hb2⟩
        have HY := Lib.hid hy
        have O2 := Lib.hid (O.out.keep hb2)
        have B2 := below_callS hbl hb2
        have S2 := Lib.hid (S.out.keep hb2)
        have X2 := Lib.hid (X.out.keep hb2)
        clear hy hb2 KR O S X hbl c0 hg
        cases hr : rdE p with
        | none =>
          have HR := Lib.hid (HNO.out hr)
          have hrs : (rdE p).isSome = false := by rw [hr]; rfl
          have hbF := below_allocS B2 (.cells #[.int .i64 y.a, .int .i64 y.b, .int .i64 y.c] 40)
          clear HTK HNO HY HS1 HS2
          go_wp2_with fail
          exact bodyPost_ret (v := .tuple #[.slice none 0 0, .bool false]) (by simp [results, Tryd.results5, go_sem]) rfl ⟨_, _, _, by rw [HR.out]; rfl, by rw [HR.out]; exact OwnE.nil _ _, hbF⟩
        | some z =>
          have hrs : (rdE p).isSome = true := by rw [hr]; rfl
          obtain ⟨rfl, hok⟩ := HY.out z hr
          have HE := Lib.hid (HTK.out _ hr)
          have HOK := Lib.hid hok
          clear HTK HNO HY hok hr
          obtain ⟨wB, hwB⟩ : ∃ v, v = w2.alloc (.cells #[.int .i64 z.a, .int .i64 z.b, .int .i64 z.c] 40) := ⟨_, rfl⟩
          have hbB2 : Below w2.heap.size w2 wB := by rw [hwB]; exact below_alloc1 (Below.refl _ _) _
          have hBK : Blk wB w2.heap.size #[.int .i64 z.a, .int .i64 z.b, .int .i64 z.c] 40 := by rw [hwB]; exact Blk.made _ _ _
          have BB := below_callS B2 hbB2
          have OB := Lib.hid (O2.out.keep hbB2)
          have SB := Lib.hid (S2.out.keep hbB2)
          have XB := Lib.hid (X2.out.keep hbB2)
          have f0 := hBK.cell 0
          have f1 := hBK.cell 1
          have f2 := hBK.cell 2
          have hpl := hBK.lt
          simp only [List.getElem?_toArray, List.getElem?_cons_zero, List.getElem?_cons_succ] at f0 f1 f2
          go_upto_region 8 with fail
          rw [← hwB]
          clear hwB hBK hbB2 O2 S2 X2 B2
          go_wp2_with (at_builtin; refine appTy z rfl _ _ rfl Tryd.underlying26 Tryd.infoReplayEvent rfl (by decide) (by decide) I3.one3 _ _ _ _ OB.out rfl _ rfl rfl rfl HOK.out (by omega) BB ?_; intro aD cD wD hoD hbD htD; refine Hid.out ?_)
          have OD := Lib.hid hoD
          have SD := Lib.hid (SB.out.oth htD (by decide))
          have XD := Lib.hid (XB.out.oth htD (by decide))
          clear hoD htD OB SB XB BB
          refine Lib.hid ?_
          go_wp2_with fail
          go_roundw
          case rel => exact ⟨k + 1, q + 1, cD, aD, L ++ [z], rfl, by go_num, by omega, by omega, hbD, SD, XD, OD, HE⟩
          case measure => simp only [intOf]; omega
      · have hlt' : ¬ (k : Int) < (n1 : Int) := by omega
        obtain rfl : k = n1 := by omega
        have hE := E.out
        rw [take_len HN.out] at hE
        have hql : q ≤ 1048576 := by
          have h1 := HSH.out (rd_short hE)
          have h2 := O.out.len
          have h3 := congrArg List.length hE
          rw [List.length_map, List.length_map] at h3
          omega
        have HR2 := Lib.hid (HS2.out L (rdAll_some.2 hE))
        have OZ := O
        have XZ := X
        have hbZ := hbl
        clear hE E O X S hbl HS1 HS2 HSH HPA
        have x0 := XZ.out.cell 0
        have x1 := XZ.out.cell 1
        have xl := XZ.out.lt
        simp only [List.getElem?_toArray, List.getElem?_cons_zero, List.getElem?_cons_succ] at x0 x1
        go_wp2_with fail
        refine Calls.mono (spec_l25Code (HI.out.keep hbZ) OZ.out.flats hn (by omega)) ?_
        rintro e wY ⟨rfl, hbY⟩
        have OY := Lib.hid (OZ.out.keep hbY)
        have BY := Lib.hid (below_callS hbZ hbY)
        by_cases hC : rpC b l L = 0
        · have HR := Lib.hid (show R = some L by rw [HR2.out, if_pos hC])
          rw [hC]
          clear HR2 hbY hbZ OZ
          go_wp2
          exact bodyPost_ret (v := .tuple #[.slice aq q cq, .bool true]) (by simp [results, Tryd.results5, go_sem]) rfl ⟨_, _, _, by rw [HR.out]; rfl, by rw [HR.out]; exact OY.out, BY.out⟩
        · have HR := Lib.hid (show R = none by rw [HR2.out, if_neg hC])
          have hC' : (rpC b l L != 0) = true := by simpa using hC
          clear HR2 hbY hbZ OZ
          go_wp2
          exact bodyPost_ret (v := .tuple #[.slice none 0 0, .bool false]) (by simp [results, Tryd.results5, go_sem]) rfl ⟨_, _, _, by rw [HR.out]; rfl, by rw [HR.out]; exact OwnE.nil _ _, BY.out⟩
end Go.Proofs.YtipkncjjkkijfaaDoor
