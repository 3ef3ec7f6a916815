/- A text cut at a byte by the reference, walked. -/
import Derived.Test.YtipkncjjkkijfaaGreatDoorPn
import Derived.Test.YtipkncjjkkijfaaGreatDoorAp
namespace Go.Proofs.YtipkncjjkkijfaaGreatDoor
open Go.RowKit
set_option linter.unusedVariables false
set_option linter.unusedSimpArgs false
theorem appOne {α : Type} {k : Nat} {enc : α → List Value} {ok : α → Prop} {zv : Value} {by' : Nat} {P : Program} {w w0 : World} {ops : Array Oper} {rest : List Oper} {o : Oper} {act : Act} {Q : Exit → Act → World → Prop} {cs : Array Value} {t e : TypeId} (y : α) (hgd : o.guard = none) (s x : Operand)
    (ho : o.op = .call { callee := .builtin .append, args := #[s, x], argTypes := #[t, t] }) (ht : P.underlying t = some (.slice e)) (hinfo : (P.info? e).map (fun i => (i.zero, i.size, i.bytes)) = some (some zv, k, by'))
    (hzs : zv.cells.size = k) (hk : 0 < k) (hby : by' ≤ 128) (hone : ∀ y : α, ∀ u ∈ enc y, u.oneCell' = true)
    (a : Option Addr) (n c : Nat) (l : List α) (hown : OwnF k enc ok e w w0.heap.size a n c l) (hs : act.eval s = .slice a n c) (gx : Nat) (hx : act.eval x = .slice (some ⟨gx, 0, none⟩) 1 1) (hg : gx = w.heap.size) (hcs : cs = (enc y).toArray) (hok2 : ok y)
    (hn : n ≤ 4194303) (hbase : Below w0.heap.size w0 w)
    (K : ∀ a' c' w', OwnF k enc ok e w' w0.heap.size a' (n + 1) c' (l ++ [y]) → Below w0.heap.size w0 w' → wpList P ops Q rest (act.put o.dst (.slice a' (n + 1) c')) w') : wpList P ops Q (o :: rest) act (w.alloc (.cells cs e)) := by
  subst hg
  have hb0 : Below w.heap.size w (w.alloc (.cells cs e)) := (Below.refl _ _).alloc (Nat.le_refl _) _
  have hfl := lit_flats (ok := ok) w e [y] cs hown.2.2.2 hk (by rw [hcs]; simp) (fun z hz => by simp at hz; rw [hz]; exact hok2)
  refine appendL_F hgd s x t e ho ht hinfo hzs hk hby hone w0.heap.size a n c l (hown.keep hb0) hs _ _ _ [y] hx hfl (by omega) (by decide) (by have := hbase.size; simp; omega) ?_
  intro a' c' w' h1 h2 _ _
  exact K a' c' w' h1 ((hbase.trans (hb0.mono hbase.size)).trans h2)
theorem encS_one : ∀ y : ByteArray, ∀ u ∈ (fun s : ByteArray => [Value.string s]) y, u.oneCell' = true := fun y u h => by simp at h; subst h; rfl
theorem run_sub2 (s : ByteArray) (a k : Nat) (w : World) (h1 : a ≤ k) (h2 : k ≤ s.size) : (Instr.slice 9 (.string s) (some (.int .i64 (a : Int))) (some (.int .i64 (k : Int))) none).run Tryz.prog w = .ok (.string (strL (subL s.data.toList a k))) w := by
  have h := run_sub s a (k - a) w (by omega)
  have e1 : (a : Int) + ((k - a : Nat) : Int) = (k : Int) := by omega
  have e2 : a + (k - a) = k := by omega
  rw [e1, e2] at h
  exact h
set_option maxHeartbeats 2000000 in
theorem spec_l01Split {s : ByteArray} {d : UInt8} {w : World} (hz : s.size ≤ 1048576) : Calls Tryz.prog 25 #[.string s, .int .u8 d.toNat] w fun e w' => ∃ a n c, e = .returned (.slice a n c) ∧ OwnS w' w.heap.size a n c ((pcs d s.data.toList).map strL) ∧ Below w.heap.size w w' := by
  go_enter Tryz.func25, Tryz.ntmps25
  go_wp2_with fail
  obtain ⟨wA, hwA⟩ : ∃ v, v = w.alloc (.cells #[] 9) := ⟨_, rfl⟩
  have hbA : Below w.heap.size w wA := by rw [hwA]; exact below_alloc1 (Below.refl _ _) _
  have O0 := Lib.hid (show OwnS wA w.heap.size (some ⟨w.heap.size, 0, none⟩) 0 0 (([] : List (List UInt8)).map strL) by rw [hwA]; exact OwnF.emp w (Nat.le_refl _) (fun _ => rfl))
  rw [← hwA]
  clear hwA
  go_loopw [5, 6, 7] (fun s5 s6 s7 wr => ∃ (i f q c : Nat) (a : Option Addr) (o : List (List UInt8)), s5 = .slice a q c ∧ s6 = .int .i64 (f : Int) ∧ s7 = .int .i64 (i : Int) ∧ f ≤ i ∧ i ≤ s.size + 1 ∧ q ≤ i ∧ Below w.heap.size w wr ∧ Hid (OwnS wr w.heap.size a q c (o.map strL)) ∧ Hid ((i ≤ s.size → o ++ pcs d (s.data.toList.drop f) = pcs d s.data.toList ∧ ∀ b ∈ subL s.data.toList f i, b ≠ d) ∧ (¬ i ≤ s.size → o = pcs d s.data.toList))) (fun _ _ s7 _ => s.size + 1 - (intOf s7).toNat)
  case atStart => exact ⟨0, 0, 0, 0, _, [], rfl, rfl, rfl, by omega, by omega, by omega, hbA, O0, Lib.hid ⟨fun _ => ⟨rfl, fun b hb => by simp [subL] at hb⟩, fun h => by omega⟩⟩
  case round =>
    clear O0 hbA
    obtain ⟨i, f, q, c, a, o, rfl, rfl, rfl, hfi, hi, hqi, hbl, O, E⟩ := hrel
    have hsl := str_len s
    by_cases hle : i ≤ s.size
    · have hle' : (i : Int) ≤ (s.size : Int) := by omega
      have hi0 : (0 : Int) ≤ (i : Int) := by omega
      have hsub := fun (wx : World) => run_sub2 s f i wx hfi hle
      obtain ⟨E1, E2⟩ := E.out.1 hle
      have hok : (strL (subL s.data.toList f i)).size ≤ maxLen := by
        rw [strL_size, subL, List.length_take, List.length_drop]
        unfold maxLen; omega
      by_cases hlt : i < s.size
      · have hlt' : (i : Int) < (s.size : Int) := by omega
        have hne : ((i : Int) == (s.size : Int)) = false := by simp; omega
        have hc := str_get hlt
        by_cases hd : s[i] = d
        · have hu : ((s[i].toNat : Int) == (d.toNat : Int)) = true := by rw [hd]; simp
          have HE := Lib.hid (show (o ++ [subL s.data.toList f i]) ++ pcs d (s.data.toList.drop (i + 1)) = pcs d s.data.toList by
            rw [← E1, List.append_assoc]
            congr 1
            have h1 : s.data.toList.drop f = subL s.data.toList f i ++ d :: s.data.toList.drop (i + 1) := by
              have h2 : (s.data.toList.drop f).drop (i - f) = s[i] :: s.data.toList.drop (i + 1) := by
                rw [List.drop_drop, show f + (i - f) = i by omega, List.drop_eq_getElem_cons (by rw [hsl]; exact hlt)]
                rw [List.getElem?_eq_getElem (by rw [hsl]; exact hlt)] at hc
                simp only [Option.some.injEq] at hc
                rw [hc]
              rw [← hd, ← h2, subL, List.take_append_drop]
            rw [h1, pcs_run _ E2]; rfl)
          have HOK := Lib.hid hok
          obtain ⟨S, hS⟩ : ∃ S, S = subL s.data.toList f i := ⟨_, rfl⟩
          rw [← hS] at hsub HE HOK
          have hsl2 := Lib.hid hsl
          clear E E1 E2 hS hok hc hd hsl
          go_wp2_with (at_builtin; refine appOne (strL S) rfl _ _ rfl Tryz.underlying43 Tryz.infoStr rfl (by decide) (by decide) encS_one _ _ _ _ O.out rfl _ rfl rfl rfl HOK.out (by omega) hbl ?_; intro aD cD wD hoD hbD; refine Hid.out ?_)
          have OD := Lib.hid (show OwnS wD w.heap.size aD (q + 1) cD ((o ++ [S]).map strL) by rw [List.map_append]; exact hoD)
          clear hoD O hbl
          refine Lib.hid ?_
          go_wp2_with fail
          go_roundw
          case rel => exact ⟨i + 1, i + 1, q + 1, cD, aD, o ++ [S], rfl, by go_num, by go_num, by omega, by omega, by omega, hbD, OD, Lib.hid ⟨fun _ => ⟨HE.out, fun b hb => by simp [subL] at hb⟩, fun h => by omega⟩⟩
          case measure => simp only [intOf]; omega
        · have hu : ((s[i].toNat : Int) == (d.toNat : Int)) = false := by
            rw [beq_eq_false_iff_ne]
            intro h
            exact hd (UInt8.toNat_inj.1 (by omega))
          have HE := Lib.hid (show ∀ b ∈ subL s.data.toList f (i + 1), b ≠ d by
            have h3 : subL s.data.toList f (i + 1) = subL s.data.toList f i ++ [s[i]] := by
              rw [subL, subL, show i + 1 - f = (i - f) + 1 by omega, take_at (x := s[i])]
              rw [List.getElem?_drop, show f + (i - f) = i by omega]; exact hc
            intro b hb
            rw [h3] at hb
            rcases List.mem_append.1 hb with hb | hb
            · exact E2 b hb
            · simp at hb; rw [hb]; exact hd)
          have HE1 := Lib.hid E1
          clear E E1 E2 hok hc hd hsl hsub
          go_wp2_with fail
          go_roundw
          case rel => exact ⟨i + 1, f, q, c, a, o, rfl, rfl, by go_num, by omega, by omega, by omega, hbl, O, Lib.hid ⟨fun _ => ⟨HE1.out, HE.out⟩, fun h => by omega⟩⟩
          case measure => simp only [intOf]; omega
      · have hne : ((i : Int) == (s.size : Int)) = true := by simp; omega
        have hlt' : ¬ (i : Int) < (s.size : Int) := by omega
        have HE := Lib.hid (show o ++ [subL s.data.toList f i] = pcs d s.data.toList by
          have h1 : s.data.toList.drop f = subL s.data.toList f i := by
            rw [subL, List.take_of_length_le (by rw [List.length_drop]; omega)]
          rw [← E1, h1, pcs_free E2])
        have HOK := Lib.hid hok
        obtain ⟨S, hS⟩ : ∃ S, S = subL s.data.toList f i := ⟨_, rfl⟩
        rw [← hS] at hsub HE HOK
        clear E E1 E2 hS hok hsl
        go_wp2_with (at_builtin; refine appOne (strL S) rfl _ _ rfl Tryz.underlying43 Tryz.infoStr rfl (by decide) (by decide) encS_one _ _ _ _ O.out rfl _ rfl rfl rfl HOK.out (by omega) hbl ?_; intro aD cD wD hoD hbD; refine Hid.out ?_)
        have OD := Lib.hid (show OwnS wD w.heap.size aD (q + 1) cD ((o ++ [S]).map strL) by rw [List.map_append]; exact hoD)
        clear hoD O hbl
        refine Lib.hid ?_
        go_wp2_with fail
        go_roundw
        case rel => exact ⟨i + 1, i + 1, q + 1, cD, aD, o ++ [S], rfl, by go_num, by go_num, by omega, by omega, by omega, hbD, OD, Lib.hid ⟨fun h => by omega, fun _ => HE.out⟩⟩
        case measure => simp only [intOf]; omega
    · have hle' : ¬ (i : Int) ≤ (s.size : Int) := by omega
      have HE := Lib.hid (E.out.2 hle)
      go_wp2
      go_ret
      exact ⟨a, q, c, rfl, by rw [← HE.out]; exact O.out, hbl⟩
end Go.Proofs.YtipkncjjkkijfaaGreatDoor
