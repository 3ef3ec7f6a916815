/- ReadReplay of the program, walked. -/
import Derived.Test.YtipkncjjkkijfaaGreatDoorZ9
import Derived.Test.YtipkncjjkkijfaaGreatDoorSp
import Derived.Test.YtipkncjjkkijfaaGreatDoorLv
namespace Go.Proofs.YtipkncjjkkijfaaGreatDoor
open Go.RowKit
set_option linter.unusedVariables false
set_option linter.unusedSimpArgs false
theorem strs_eqT (l : List (List UInt8)) : strsCells l = l.map fun z => .string ⟨z.toArray⟩ := by
  unfold strsCells
  induction l with
  | nil => rfl
  | cons y r ih => rw [List.flatMap_cons, List.map_cons, ih]; rfl
/-- cells of strings are a slice of strings -/
theorem fs_cellsT {w : World} {g n : Nat} {nm : List (List UInt8)} (hg : g < w.heap.size) (hc : ∀ i v, (strsCells nm)[i]? = some v → w.cell? ⟨g, i, none⟩ = some v) (hn : nm.length = n) (hz : ∀ z ∈ nm, z.length ≤ 1000) : FS w (some ⟨g, 0, none⟩) n n (nm.map fun z => ⟨z.toArray⟩) := by
  refine ⟨by rw [List.length_map]; exact hn, Nat.le_refl _, .inr ⟨g, 0, rfl, hg, fun i x hx j v hv => ?_⟩, fun x hx => ?_, fun h => by cases h⟩
  · obtain ⟨rfl⟩ : j = 0 := by
      cases j with
      | zero => rfl
      | succ j => simp at hv
    simp only [List.getElem?_cons_zero, Option.some.injEq] at hv
    subst hv
    have := hc i (.string x) ?_
    · simpa using this
    · rw [strs_eqT, List.getElem?_map]
      rw [List.getElem?_map] at hx
      cases h : nm[i]? with
      | none => rw [h] at hx; cases hx
      | some z => rw [h] at hx; simp at hx; simp [hx]
  · obtain ⟨z, hz1, rfl⟩ := List.mem_map.1 hx
    have := hz z hz1
    simp [ByteArray.size, maxLen]; omega
theorem stI_of (v : ByteArray) : idxF (fun y : ByteArray => v.toList == y.toList) stBs = stI v.data.toList := by
  rw [stI]
  congr 1
  funext y
  exact str_eq
theorem stI_hi (a : List UInt8) : stI a < 4 := by
  have h := idxF_lt (fun y : ByteArray => decide (a = y.data.toList)) stBs
  rw [show stBs.length = 4 from rfl] at h
  rw [stI]; omega
theorem stI_lo (a : List UInt8) : -1 ≤ stI a := by rw [stI]; exact idxF_ge _ _
theorem rdI_no {p : List UInt8} (h : okN (Lib.cut p [32]).2.1 = false) : rdI p = none := by
  rw [rdI]
  split
  · rw [if_neg (by rw [h]; simp)]
  · rfl
theorem rdI_neg {p : List UInt8} (h : stI (Lib.cut p [32]).1 < 0) : rdI p = none := by
  rw [rdI]
  split
  · rw [if_neg (by omega)]
  · rfl
theorem rdI_yes {p : List UInt8} {v : Int} (h : okN (Lib.cut p [32]).2.1 = true) (hv : Lib.parseIntB 64 (Lib.cut p [32]).2.1 = .ok v) (h0 : 0 ≤ stI (Lib.cut p [32]).1) : rdI p = some ⟨min (stI (Lib.cut p [32]).1) 1, v, stI (Lib.cut p [32]).1⟩ := by
  rw [rdI, hv]
  simp only
  rw [if_pos ⟨h, h0⟩]
theorem rdI_ne {p : List UInt8} {x : I3} (h : rdI p = some x) : p ≠ [] := by
  rintro rfl
  rw [rdI_no (by decide +kernel)] at h
  cases h
theorem rdI_short {ps : List (List UInt8)} {L : List I3} (h : ps.map rdI = L.map some) : ∀ p ∈ ps, p ≠ [] := by
  intro p hp
  have h1 : rdI p ∈ L.map some := by rw [← h]; exact List.mem_map_of_mem hp
  obtain ⟨x, _, hx⟩ := List.mem_map.1 h1
  exact rdI_ne hx.symm
theorem rrI_none {b : Int} {l : List Int} {s : List UInt8} (h : rdAll rdI (pcR s) = none) : rrO b l s = none := by rw [← rr_same, rrI, h]
theorem rrI_some {b : Int} {l : List Int} {s : List UInt8} {L : List I3} (h : rdAll rdI (pcR s) = some L) : rrO b l s = if rpC b l L = 0 ∧ txL L = s then some L else none := by rw [← rr_same, rrI, h]
theorem rrO_traf {b : Int} {l : List Int} {s : List UInt8} (h : trafB b l = false) : rrO b l s = none := by
  rw [rrO]
  split
  · rfl
  · rename_i L _
    rw [if_neg]
    rw [rpC, h, if_neg Bool.false_ne_true]; decide
theorem cut_len (p : List UInt8) : (Lib.cut p [32]).1.length ≤ p.length ∧ (Lib.cut p [32]).2.1.length ≤ p.length := by
  rw [Lib.cut]
  split
  · simp only [List.length_take, List.length_drop]; omega
  · simp
set_option maxHeartbeats 1000000 in
theorem impl_pairOf {s : ByteArray} {w : World} (hM : MLc w) (hL : LV w) (hz : s.size ≤ 1048576) : Calls Tryz.prog 23 #[.string s] w fun e w' => ∃ v : Int, e = .returned (.tuple #[.string ⟨(Lib.cut s.data.toList [32]).1.toArray⟩, .int .i64 v, .bool (okN (Lib.cut s.data.toList [32]).2.1)]) ∧ (okN (Lib.cut s.data.toList [32]).2.1 = true → Lib.parseIntB 64 (Lib.cut s.data.toList [32]).2.1 = .ok v) ∧ Below w.heap.size w w' := by
  obtain ⟨m0, hm0⟩ := hM
  have hcl := cut_len s.data.toList
  rw [str_len] at hcl
  have KC := Tryz.strings_Cut s ⟨#[32]⟩ m0 w (by omega) hm0
  rw [show (⟨#[32]⟩ : ByteArray).data.toList = [32] from rfl] at KC
  obtain ⟨P, hP⟩ : ∃ P, P = strL (Lib.cut s.data.toList [32]).1 := ⟨_, rfl⟩
  obtain ⟨Q, hQ⟩ : ∃ Q, Q = strL (Lib.cut s.data.toList [32]).2.1 := ⟨_, rfl⟩
  obtain ⟨R, hR⟩ : ∃ R, R = (Lib.cut s.data.toList [32]).2.2 := ⟨_, rfl⟩
  have KC : Calls Tryz.prog 48 #[.string s, .string ⟨#[32]⟩] w fun e w' => e = .returned (.tuple #[.string P, .string Q, .bool R]) ∧ ∃ n, w' = w.drewN n := by rw [hP, hQ, hR]; exact KC
  have hq : Q.size ≤ 1048576 := by rw [hQ, strL_size]; omega
  have hql : Q.data.toList = (Lib.cut s.data.toList [32]).2.1 := by rw [hQ, strL_list]
  have KR := fun (wx : World) (hb : Below w.heap.size w wx) => impl_readNumber (s := Q) (hL.keep hb) hq
  rw [hql] at KR
  have HP := Lib.hid (show (⟨(Lib.cut s.data.toList [32]).1.toArray⟩ : ByteArray) = P from hP.symm)
  have KC := Lib.hid KC
  have KR := Lib.hid KR
  generalize okN (Lib.cut s.data.toList [32]).2.1 = ok at *
  clear hm0 hL hcl hq hql hP hQ hR
  go_enter Tryz.func23, Tryz.ntmps23
  go_wp2_with fail
  refine Calls.mono KC.out ?_
  rintro e w1 ⟨rfl, nn, hw1⟩
  have hb1 : Below w.heap.size w w1 := by rw [hw1]; exact below_drewN (Below.refl _ _) _
  clear hw1
  go_wp2_with fail
  refine Calls.mono (KR.out _ hb1) ?_
  rintro e w2 ⟨v, rfl, hv, hb2⟩
  have HV := Lib.hid hv
  clear hv
  go_wp2
  exact bodyPost_ret (v := .tuple #[.string P, .int .i64 v, .bool ok]) (by simp [results, Tryz.results23, go_sem]) rfl ⟨v, by rw [HP.out], HV.out, below_callS hb1 hb2⟩
set_option maxHeartbeats 4000000 in
theorem impl_ReadReplay {b : Int} {a : Option Addr} {n c : Nat} {l : List Int} {s : ByteArray} {w : World} (hTb : Tab w 0 (strsCells statusNm)) (hM : MLc w) (hL : LV w) (hI : Ints w a n c l) (hn : n ≤ 1048576) (hz : s.size ≤ 1048576) :
    Calls Tryz.prog 8 #[.agg #[.int .i64 b, .slice a n c], .string s] w fun e w' => ∃ a' n' c', e = .returned (.tuple #[.slice a' n' c', .bool (rrO b l s.data.toList).isSome]) ∧ OwnE w' w.heap.size a' n' c' ((rrO b l s.data.toList).getD []) ∧ Below w.heap.size w w' := by
  obtain ⟨wA, hwA⟩ : ∃ v, v = w.alloc (.cells #[.int .i64 b, .slice a n c] 26) := ⟨_, rfl⟩
  have hbA : Below w.heap.size w wA := by rw [hwA]; exact below_alloc1 (Below.refl _ _) _
  have X0 := Lib.hid (show Blk wA w.heap.size #[.int .i64 b, .slice a n c] 26 by rw [hwA]; exact Blk.made w _ _)
  have HI := Lib.hid hI
  have HTB := Lib.hid hTb
  have HM := Lib.hid hM
  have HLV := Lib.hid hL
  have KT := Lib.hid (impl_IsTraffic (b := b) (hI.keep hbA) hn)
  clear hI hTb hM hL
  have x0 := X0.out.cell 0
  have x1 := X0.out.cell 1
  have xl := X0.out.lt
  simp only [List.getElem?_toArray, List.getElem?_cons_zero, List.getElem?_cons_succ] at x0 x1
  cases ht : trafB b l
  · rw [ht] at KT
    have HR := Lib.hid (rrO_traf (s := s.data.toList) ht)
    clear ht
    generalize rrO b l s.data.toList = R at *
    go_enter Tryz.func8, Tryz.ntmps8
    go_upto_region 1 with fail
    rw [← hwA]
    clear hwA
    go_wp2_with fail
    refine Calls.mono KT.out ?_
    rintro e w1 ⟨rfl, hb1⟩
    go_wp2
    exact bodyPost_ret (v := .tuple #[.slice none 0 0, .bool false]) (by simp [results, Tryz.results8, go_sem]) rfl ⟨_, _, _, by rw [HR.out]; rfl, by rw [HR.out]; exact OwnE.nil _ _, below_callS hbA hb1⟩
  · rw [ht] at KT
    clear ht
    have HS1 := Lib.hid (fun (h : rdAll rdI (pcR s.data.toList) = none) => rrI_none (b := b) (l := l) h)
    have HS2 := Lib.hid (fun (L : List I3) (h : rdAll rdI (pcR s.data.toList) = some L) => rrI_some (b := b) (l := l) h)
    generalize rrO b l s.data.toList = R at *
    go_enter Tryz.func8, Tryz.ntmps8
    go_upto_region 1 with fail
    rw [← hwA]
    clear hwA
    go_wp2_with fail
    refine Calls.mono KT.out ?_
    rintro e w1 ⟨rfl, hb1⟩
    have X1 := Lib.hid (X0.out.keep hb1)
    have B1 := below_callS hbA hb1
    obtain ⟨m1, hm1⟩ := HM.out.keep B1
    have KS := Lib.hid (Tryz.strings_Split s ⟨#[59]⟩ m1 w1 (by omega) hm1 (by decide))
    have hlen := Lib.splitB_all ⟨#[59]⟩ (by decide) 0 _ s rfl
    have hps := split_pcs s 59
    generalize Lib.splitB ⟨#[59]⟩ 0 (Lib.countB s ⟨#[59]⟩) s = ps at *
    generalize Lib.countB s ⟨#[59]⟩ = cn at *
    have hle : cn + 1 ≤ s.size + 1 := by
      have h1 := pcs_len 59 s.data.toList
      rw [← hps, List.length_map, hlen] at h1
      have h2 := List.count_le_length (l := s.data.toList) (a := (59 : UInt8))
      rw [str_len] at h2
      omega
    have hall : ∀ p ∈ ps, p.size ≤ s.size := by
      intro p hp
      have h1 := pcs_all 59 s.data.toList p.data.toList (by rw [← hps]; exact List.mem_map_of_mem hp)
      rw [str_len, str_len] at h1
      exact h1
    have hsh := fun h => @pcs_short 59 s.data.toList h
    rw [← hps, str_len] at hsh
    have HPC := Lib.hid (show ¬ s.size = 0 → pcR s.data.toList = ps.map (·.data.toList) by
      intro h
      rw [pcR, if_neg, hps]
      intro he
      have := str_len s
      rw [he] at this
      exact h this.symm)
    have HP0 := Lib.hid (show s.size = 0 → pcR s.data.toList = [] by
      intro h
      rw [pcR, if_pos]
      exact List.length_eq_zero_iff.1 (by rw [str_len]; exact h))
    have HPS := Lib.hid hps
    have HLEN := Lib.hid hlen
    have HALL := Lib.hid hall
    have HSH := Lib.hid hsh
    clear hm1 hps hlen hall hsh hb1 x0 x1 xl KT X0 hbA
    go_wp2_with fail
    refine Calls.mono KS.out ?_
    rintro e w2 ⟨rfl, hw2⟩
    have hb2 : Below w1.heap.size w1 w2 := by rw [hw2]; exact below_alloc1 (Below.refl _ _) _
    have P2 := Lib.hid (show Blk w2 w1.heap.size (ps.map Value.string).toArray 9 by rw [hw2]; exact Blk.made w1 _ _)
    have X2 := Lib.hid (X1.out.keep hb2)
    have B2 := below_callS B1 hb2
    have hs2 := B2.size
    clear hw2 hb2 KS X1 B1
    generalize w1.heap.size = p at *
    go_wp2_with fail
    go_loopw [6, 19] (fun s6 s19 wr => ∃ (k q cq : Nat) (aq : Option Addr) (L : List I3), s6 = .slice aq q cq ∧ s19 = .int .i64 (k : Int) ∧ k ≤ cn + 1 ∧ q ≤ k ∧ Below w2.heap.size w2 wr ∧ Hid (OwnE wr w2.heap.size aq q cq L) ∧ Hid ((s.size = 0 → k = 0) ∧ ((ps.take k).map (·.data.toList)).map rdI = L.map some)) (fun _ s19 _ => cn + 1 - (intOf s19).toNat)
    case atStart => exact ⟨0, 0, 0, none, [], rfl, rfl, by omega, by omega, Below.refl _ _, Lib.hid (OwnE.nil _ _), Lib.hid ⟨fun _ => rfl, rfl⟩⟩
    case round =>
      obtain ⟨k, q, cq, aq, L, rfl, rfl, hk, hqk, hbl, O, E⟩ := hrel
      have hbZ := below_callS B2 hbl
      by_cases hlt : k < cn + 1
      · have hk0 : (0 : Int) ≤ (k : Int) := by omega
        have hlt' : (k : Int) < (cn : Int) + 1 := by omega
        have hlt2 : (k : Int) < ((cn + 1 : Nat) : Int) := by omega
        have hlt3 : k < ps.length := by rw [HLEN.out]; exact hlt
        obtain ⟨t, ht⟩ : ∃ t, ps[k]? = some t := ⟨_, List.getElem?_eq_getElem hlt3⟩
        have hts := HALL.out t (List.mem_of_getElem? ht)
        have hc : wr.cell? ⟨p, k, none⟩ = some (.string t) := by
          rw [(P2.out.keep hbl).cell k, List.getElem?_toArray, List.getElem?_map, ht]; rfl
        have hpl := (P2.out.keep hbl).lt
        by_cases h0 : s.size = 0
        · have hs0 : s.data.toList = [] := List.length_eq_zero_iff.1 (by rw [str_len]; exact h0)
          have hse : (s.toList == []) = true := by rw [ByteArray.toList_eq, hs0]; rfl
          have hse2 : s.toList.isEmpty = true := by rw [ByteArray.toList_eq, hs0]; rfl
          have hk00 := E.out.1 h0
          have hL : L = [] := by
            have h := E.out.2
            rw [hk00] at h
            cases L with
            | nil => rfl
            | cons x r => simp at h
          subst hL
          have HR2 := Lib.hid (HS2.out [] (by rw [HP0.out h0]; rfl))
          have OZ := O
          have XZ := Lib.hid (X2.out.keep hbl)
          clear hs0 hk00 E O hbl HS1 HS2 HSH HALL HPC HP0 HPS
          have x0 := XZ.out.cell 0
          have x1 := XZ.out.cell 1
          have xl := XZ.out.lt
          simp only [List.getElem?_toArray, List.getElem?_cons_zero, List.getElem?_cons_succ] at x0 x1
          go_wp2_with fail
          refine Calls.mono (impl_replayCode (HI.out.keep hbZ) OZ.out.flats hn (by omega)) ?_
          rintro e wY ⟨rfl, hbY⟩
          have OY := Lib.hid (OZ.out.keep hbY)
          have XY := Lib.hid (XZ.out.keep hbY)
          have BY := Lib.hid (below_callS hbZ hbY)
          clear x0 x1 xl hbY hbZ OZ XZ
          by_cases hC : rpC b l [] = 0
          · have x0 := XY.out.cell 0
            have x1 := XY.out.cell 1
            have xl := XY.out.lt
            simp only [List.getElem?_toArray, List.getElem?_cons_zero, List.getElem?_cons_succ] at x0 x1
            have KT2 := impl_ReplayText (HTB.out.keep BY.out) (HI.out.keep BY.out) OY.out.flats hn (by omega) (b := b)
            rw [show rpT b l [] = ⟨(txL []).toArray⟩ by rw [rpT, if_pos hC]] at KT2
            obtain ⟨S, hS⟩ : ∃ S : ByteArray, S = ⟨(txL []).toArray⟩ := ⟨_, rfl⟩
            rw [← hS] at KT2
            have hSl : S.data.toList = txL [] := by rw [hS]
            have KT2 := Lib.hid KT2
            rw [hC]
            by_cases hq : txL [] = s.data.toList
            · have HR := Lib.hid (show R = some [] by rw [HR2.out, if_pos ⟨hC, hq⟩])
              have hne : (S.toList != s.toList) = false := by rw [ByteArray.toList_eq, ByteArray.toList_eq, hSl, hq]; simp
              have hne2 : (S.toList == s.toList) = true := by rw [ByteArray.toList_eq, ByteArray.toList_eq, hSl, hq]; simp
              clear HR2 hS hSl hq hC
              go_wp2_with fail
              refine Calls.mono KT2.out ?_
              rintro e wX ⟨rfl, hbX⟩
              have OX := Lib.hid (OY.out.keep hbX)
              have BX := Lib.hid (below_callS BY.out hbX)
              clear hbX
              go_wp2
              exact bodyPost_ret (v := .tuple #[.slice aq q cq, .bool true]) (by simp [results, Tryz.results8, go_sem]) rfl ⟨_, _, _, by rw [HR.out]; rfl, by rw [HR.out]; exact OX.out.le (by omega), BX.out⟩
            · have HR := Lib.hid (show R = none by rw [HR2.out, if_neg (fun h => hq h.2)])
              have hne : (S.toList != s.toList) = true := by rw [ByteArray.toList_eq, ByteArray.toList_eq, hSl]; simpa using hq
              have hne2 : (S.toList == s.toList) = false := by rw [ByteArray.toList_eq, ByteArray.toList_eq, hSl]; exact beq_eq_false_iff_ne.2 hq
              clear HR2 hS hSl hq hC
              go_wp2_with fail
              refine Calls.mono KT2.out ?_
              rintro e wX ⟨rfl, hbX⟩
              have BX := Lib.hid (below_callS BY.out hbX)
              clear hbX
              go_wp2
              exact bodyPost_ret (v := .tuple #[.slice none 0 0, .bool false]) (by simp [results, Tryz.results8, go_sem]) rfl ⟨_, _, _, by rw [HR.out]; rfl, by rw [HR.out]; exact OwnE.nil _ _, BX.out⟩
          · have HR := Lib.hid (show R = none by rw [HR2.out, if_neg (fun h => hC h.1)])
            have hC' : (rpC b l [] != 0) = true := by simpa using hC
            generalize rpC b l [] = C at *
            clear HR2 hC
            go_wp2
            exact bodyPost_ret (v := .tuple #[.slice none 0 0, .bool false]) (by simp [results, Tryz.results8, go_sem]) rfl ⟨_, _, _, by rw [HR.out]; rfl, by rw [HR.out]; exact OwnE.nil _ _, BY.out⟩
        · have hs0 : s.data.toList ≠ [] := by
            intro h
            have h1 := str_len s
            rw [h] at h1
            exact h0 h1.symm
          have hse : (s.toList == []) = false := by rw [ByteArray.toList_eq]; simpa using hs0
          have hse2 : s.toList.isEmpty = false := by rw [ByteArray.toList_eq]; simpa using hs0
          have KP := Lib.hid (impl_pairOf (s := t) (HM.out.keep hbZ) (HLV.out.keep hbZ) (by omega))
          have hmem : t.data.toList ∈ ps.map (·.data.toList) := List.mem_map_of_mem (List.mem_of_getElem? ht)
          have HNO := Lib.hid (fun h : rdI t.data.toList = none => HS1.out (by rw [HPC.out h0]; exact rd_none hmem h))
          have htk : ∀ (y : I3), rdI t.data.toList = some y → ((ps.take (k + 1)).map (·.data.toList)).map rdI = (L ++ [y]).map some := by
            intro y hy
            have h1 : ((ps.map (·.data.toList)).take (k + 1)).map rdI = (L ++ [y]).map some := by
              refine rd_take ?_ (by rw [List.getElem?_map, ht]; rfl) hy
              rw [← List.map_take]; exact E.out.2
            rw [← List.map_take] at h1; exact h1
          have HTK := Lib.hid htk
          have hno := @rdI_no t.data.toList
          have hneg := @rdI_neg t.data.toList
          have hyes := fun v => @rdI_yes t.data.toList v
          have h64 := fun (v : Int) (h : Lib.parseIntB 64 (Lib.cut t.data.toList [32]).2.1 = .ok v) => parse_64 h
          have hhi := stI_hi (Lib.cut t.data.toList [32]).1
          have hlo := stI_lo (Lib.cut t.data.toList [32]).1
          have hlw := str_len (⟨(Lib.cut t.data.toList [32]).1.toArray⟩ : ByteArray)
          have hfs := fun (wx : World) (hb : Below w.heap.size w wx) => slices_Index_str (v := ⟨(Lib.cut t.data.toList [32]).1.toArray⟩) (fs_cellsT (HTB.out.keep hb).1 (HTB.out.keep hb).2 (n := 4) rfl (by decide)) (by decide)
          rw [show (statusNm.map fun z => (⟨z.toArray⟩ : ByteArray)) = stBs from rfl, stI_of] at hfs
          have hcw : (⟨(Lib.cut t.data.toList [32]).1.toArray⟩ : ByteArray).data.toList = (Lib.cut t.data.toList [32]).1 := rfl
          rw [hcw] at hfs
          generalize rdI t.data.toList = rt at *
          generalize stI (Lib.cut t.data.toList [32]).1 = si at *
          generalize Lib.parseIntB 64 (Lib.cut t.data.toList [32]).2.1 = pv at *
          generalize okN (Lib.cut t.data.toList [32]).2.1 = ok at *
          generalize (⟨(Lib.cut t.data.toList [32]).1.toArray⟩ : ByteArray) = W at *
          have HFS := Lib.hid hfs
          have HYES := Lib.hid hyes
          have XK := Lib.hid (X2.out.keep hbl)
          have OK' := O
          clear hfs hyes htk hmem ht hs0 hlw hcw E O
          go_wp2_with fail
          refine Calls.mono KP.out ?_
          rintro e w3 ⟨v, rfl, hv, hb3⟩
          have HV := Lib.hid hv
          have O3 := Lib.hid (OK'.out.keep hb3)
          have hbl3 := below_callS hbl hb3
          have hbZ3 := below_callS hbZ hb3
          clear hv hb3 KP OK' XK hbl hbZ hc hpl
          go_wp2_with fail
          refine Calls.mono (HFS.out _ hbZ3) ?_
          rintro e _ ⟨rfl, rfl⟩
          clear HFS
          cases ok with
          | false =>
            have HR := Lib.hid (HNO.out (hno rfl))
            clear HNO hno hneg HYES HTK HV HS1 HS2
            go_wp2
            exact bodyPost_ret (v := .tuple #[.slice none 0 0, .bool false]) (by simp [results, Tryz.results8, go_sem]) rfl ⟨_, _, _, by rw [HR.out]; rfl, by rw [HR.out]; exact OwnE.nil _ _, hbZ3⟩
          | true =>
            by_cases hsi : si < 0
            · have HR := Lib.hid (HNO.out (hneg hsi))
              clear HNO hno hneg HYES HTK HV HS1 HS2
              go_wp2
              exact bodyPost_ret (v := .tuple #[.slice none 0 0, .bool false]) (by simp [results, Tryz.results8, go_sem]) rfl ⟨_, _, _, by rw [HR.out]; rfl, by rw [HR.out]; exact OwnE.nil _ _, hbZ3⟩
            · have hpv := HV.out rfl
              have hvi : I64 v := h64 v hpv
              have HE := Lib.hid (HTK.out _ (HYES.out v rfl hpv (by omega)))
              clear HNO hno hneg HYES HTK HV hpv
              have hcn : cn ≤ 1048577 := by omega
              go_wp2_with (at_builtin; refine appOne (⟨min si 1, v, si⟩ : I3) rfl _ _ rfl Tryz.underlying27 Tryz.infoReplayEvent rfl (by decide) (by decide) I3.one3 _ _ _ _ O3.out rfl _ rfl rfl rfl ⟨show I64 (min si 1) by (unfold I64; omega), hvi, show I64 si by (unfold I64; omega)⟩ (by omega) hbl3 ?_; intro aD cD wD hoD hbD; refine Hid.out ?_)
              have OD := Lib.hid hoD
              clear hoD O3 hbl3 hvi
              refine Lib.hid ?_
              go_wp2_with fail
              go_roundw
              case rel => exact ⟨k + 1, q + 1, cD, aD, _, rfl, by go_num, by omega, by omega, hbD, OD, Lib.hid ⟨fun h => absurd h h0, HE.out⟩⟩
              case measure => simp only [intOf]; omega
      · have hlt' : ¬ (k : Int) < (cn : Int) + 1 := by omega
        have hlt2 : ¬ (k : Int) < ((cn + 1 : Nat) : Int) := by omega
        obtain rfl : k = cn + 1 := by omega
        have h0 : ¬ s.size = 0 := fun h => by have := E.out.1 h; omega
        have hE := E.out.2
        rw [List.take_of_length_le (by rw [HLEN.out]; exact Nat.le_refl _)] at hE
        have hql : q ≤ 1048576 := by
          have h1 := HSH.out (rdI_short hE)
          have h2 := O.out.len
          have h3 := congrArg List.length hE
          rw [List.length_map, List.length_map, List.length_map] at h3
          rw [List.length_map] at h1
          omega
        have HR2 := Lib.hid (HS2.out L (by rw [HPC.out h0]; exact rdAll_some.2 hE))
        have OZ := O
        have XZ := Lib.hid (X2.out.keep hbl)
        clear hE E O hbl HS1 HS2 HSH HALL HPC HP0 HPS
        have x0 := XZ.out.cell 0
        have x1 := XZ.out.cell 1
        have xl := XZ.out.lt
        simp only [List.getElem?_toArray, List.getElem?_cons_zero, List.getElem?_cons_succ] at x0 x1
        go_wp2_with fail
        refine Calls.mono (impl_replayCode (HI.out.keep hbZ) OZ.out.flats hn (by omega)) ?_
        rintro e wY ⟨rfl, hbY⟩
        have OY := Lib.hid (OZ.out.keep hbY)
        have XY := Lib.hid (XZ.out.keep hbY)
        have BY := Lib.hid (below_callS hbZ hbY)
        clear x0 x1 xl hbY hbZ OZ XZ
        by_cases hC : rpC b l L = 0
        · have x0 := XY.out.cell 0
          have x1 := XY.out.cell 1
          have xl := XY.out.lt
          simp only [List.getElem?_toArray, List.getElem?_cons_zero, List.getElem?_cons_succ] at x0 x1
          have KT2 := impl_ReplayText (HTB.out.keep BY.out) (HI.out.keep BY.out) OY.out.flats hn (by omega) (b := b)
          rw [show rpT b l L = ⟨(txL L).toArray⟩ by rw [rpT, if_pos hC]] at KT2
          obtain ⟨S, hS⟩ : ∃ S : ByteArray, S = ⟨(txL L).toArray⟩ := ⟨_, rfl⟩
          rw [← hS] at KT2
          have hSl : S.data.toList = txL L := by rw [hS]
          have KT2 := Lib.hid KT2
          rw [hC]
          by_cases hq : txL L = s.data.toList
          · have HR := Lib.hid (show R = some L by rw [HR2.out, if_pos ⟨hC, hq⟩])
            have hne : (S.toList != s.toList) = false := by rw [ByteArray.toList_eq, ByteArray.toList_eq, hSl, hq]; simp
            have hne2 : (S.toList == s.toList) = true := by rw [ByteArray.toList_eq, ByteArray.toList_eq, hSl, hq]; simp
            clear HR2 hS hSl hq hC
            go_wp2_with fail
            refine Calls.mono KT2.out ?_
            rintro e wX ⟨rfl, hbX⟩
            have OX := Lib.hid (OY.out.keep hbX)
            have BX := Lib.hid (below_callS BY.out hbX)
            clear hbX
            go_wp2
            exact bodyPost_ret (v := .tuple #[.slice aq q cq, .bool true]) (by simp [results, Tryz.results8, go_sem]) rfl ⟨_, _, _, by rw [HR.out]; rfl, by rw [HR.out]; exact OX.out.le (by omega), BX.out⟩
          · have HR := Lib.hid (show R = none by rw [HR2.out, if_neg (fun h => hq h.2)])
            have hne : (S.toList != s.toList) = true := by rw [ByteArray.toList_eq, ByteArray.toList_eq, hSl]; simpa using hq
            have hne2 : (S.toList == s.toList) = false := by rw [ByteArray.toList_eq, ByteArray.toList_eq, hSl]; exact beq_eq_false_iff_ne.2 hq
            clear HR2 hS hSl hq hC
            go_wp2_with fail
            refine Calls.mono KT2.out ?_
            rintro e wX ⟨rfl, hbX⟩
            have BX := Lib.hid (below_callS BY.out hbX)
            clear hbX
            go_wp2
            exact bodyPost_ret (v := .tuple #[.slice none 0 0, .bool false]) (by simp [results, Tryz.results8, go_sem]) rfl ⟨_, _, _, by rw [HR.out]; rfl, by rw [HR.out]; exact OwnE.nil _ _, BX.out⟩
        · have HR := Lib.hid (show R = none by rw [HR2.out, if_neg (fun h => hC h.1)])
          have hC' : (rpC b l L != 0) = true := by simpa using hC
          generalize rpC b l L = C at *
          clear HR2 hC
          go_wp2
          exact bodyPost_ret (v := .tuple #[.slice none 0 0, .bool false]) (by simp [results, Tryz.results8, go_sem]) rfl ⟨_, _, _, by rw [HR.out]; rfl, by rw [HR.out]; exact OwnE.nil _ _, BY.out⟩
end Go.Proofs.YtipkncjjkkijfaaGreatDoor
