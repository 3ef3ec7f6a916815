/- Reading tokens: the reference, walked. -/
import Derived.Test.YtjneodmohkpckaaGreatDoorT12t
import Derived.Test.YtjneodmohkpckaaGreatDoorFl
import Derived.Test.YtjneodmohkpckaaGreatDoorYb1
namespace Go.Proofs.YtjneodmohkpckaaGreatDoor
open Go.RowKit
set_option linter.unusedVariables false
set_option linter.unusedSimpArgs false
/-- a token in memory -/
structure TR where
  k : Int
  t : ByteArray
def TR.enc (x : TR) : List Value := [.int .i64 x.k, .string x.t]
def TR.ok (x : TR) : Prop := I64 x.k ∧ x.t.size ≤ maxLen
abbrev FT := Flats 2 TR.enc TR.ok
abbrev OwnTk := OwnF 2 TR.enc TR.ok 88
/-- the tokens of a text from a place on, and the first wrong place, or -1 -/
def scL (l : List UInt8) : Nat → Nat → List TR × Int
  | 0, _ => ([], -1)
  | f + 1, a => match l[a]? with
    | none => ([], -1)
    | some c => if (nxS l a c).ok = true then (if 0 < (nxS l a c).k then (⟨(nxS l a c).k, strL (nxS l a c).t⟩ :: (scL l f (nxS l a c).e).1, (scL l f (nxS l a c).e).2) else scL l f (nxS l a c).e) else ([], (a : Int))
def scT (l : List UInt8) : List TR × Int := scL l (l.length + 1) 0
theorem scL_none {l : List UInt8} {f a : Nat} (h : l[a]? = none) : scL l f a = ([], -1) := by
  cases f with
  | zero => rfl
  | succ f => rw [scL, h]
theorem scL_bad {l : List UInt8} {f a : Nat} {c : UInt8} (h : l[a]? = some c) (hk : (nxS l a c).ok = false) : scL l (f + 1) a = ([], (a : Int)) := by
  rw [scL, h]; simp [hk]
theorem scL_tok {l : List UInt8} {f a : Nat} {c : UInt8} (h : l[a]? = some c) (hk : (nxS l a c).ok = true) (h0 : 0 < (nxS l a c).k) : scL l (f + 1) a = (⟨(nxS l a c).k, strL (nxS l a c).t⟩ :: (scL l f (nxS l a c).e).1, (scL l f (nxS l a c).e).2) := by
  rw [scL, h]; simp [hk, h0]
theorem scL_skip {l : List UInt8} {f a : Nat} {c : UInt8} (h : l[a]? = some c) (hk : (nxS l a c).ok = true) (h0 : ¬ 0 < (nxS l a c).k) : scL l (f + 1) a = scL l f (nxS l a c).e := by
  rw [scL, h]; simp [hk, h0]
theorem nx_e {l : List UInt8} {a : Nat} {c : UInt8} (h : l[a]? = some c) : a < (nxS l a c).e ∧ (nxS l a c).e ≤ l.length := by
  have ha : a < l.length := (List.getElem?_eq_some_iff.1 h).1
  have hd : (l.drop a)[0]? = some c := by rw [List.getElem?_drop, Nat.add_zero]; exact h
  have hle : ∀ p, runL p (l.drop a) ≤ l.length - a := fun p => by have := runL_le p (l.drop a); rw [List.length_drop] at this; exact this
  rw [nxS]
  split
  · simp only; omega
  · split
    · rename_i h2
      have := runL_pos (p := no10) hd (by simp [no10, h2])
      have := hle no10
      simp only; omega
    · split
      · rename_i h3
        have := runL_pos (p := innP) hd (by rw [innP, h3]; rfl)
        have := hle innP
        simp only; omega
      · split
        · rename_i h4
          have := runL_pos (p := digP) hd h4
          have := hle digP
          simp only; omega
        · simp only; omega
theorem nx_k {l : List UInt8} {a : Nat} {c : UInt8} : 0 ≤ (nxS l a c).k ∧ (nxS l a c).k ≤ 3 := by
  rw [nxS]
  split
  · simp
  · split
    · simp
    · split
      · simp
      · split <;> simp
theorem nx_t {l : List UInt8} {a : Nat} {c : UInt8} (h : l[a]? = some c) : (nxS l a c).t.length ≤ l.length := by
  have ha : a < l.length := (List.getElem?_eq_some_iff.1 h).1
  have hs : ∀ e, (subL l a e).length ≤ l.length := fun e => by rw [subL, List.length_take, List.length_drop]; omega
  rw [nxS]
  split
  · simp
  · split
    · simp
    · split
      · exact hs _
      · split
        · exact hs _
        · simp; omega
theorem Tryz.infoTk : (Tryz.prog.info? 88).map (fun i => (i.zero, i.size, i.bytes)) = some (some (.agg #[.int .i64 0, .string ⟨#[]⟩]), 2, 24) := by kernel_rfl
theorem TR.one (y : TR) : ∀ u ∈ y.enc, u.oneCell' = true := fun u hu => by
  simp only [TR.enc, List.mem_cons, List.not_mem_nil, or_false] at hu
  rcases hu with rfl | rfl <;> rfl
theorem OwnF.emptyk {α : Type} {k : Nat} {enc : α → List Value} {ok : α → Prop} {E : TypeId} {base : Nat} (w : World) (hk : ∀ x, (enc x).length = k) (h : base ≤ w.heap.size) : OwnF k enc ok E (w.alloc (.cells #[] E)) base (some ⟨w.heap.size, 0, none⟩) 0 0 [] :=
  ⟨World.ownsRow_lit w #[] 0 h (Nat.zero_le _) (by simp), (fun _ h => by cases h), rfl, hk⟩
theorem flats1 {w : World} {x : TR} (hx : x.ok) (T : TypeId) : FT (w.alloc (.cells #[.int .i64 x.k, .string x.t] T)) (some ⟨w.heap.size, 0, none⟩) 1 1 [x] := by
  refine ⟨rfl, Nat.le_refl _, .inr ⟨w.heap.size, 0, rfl, by simp, fun i y hy j v hv => ?_⟩, fun y hy => by simp at hy; rw [hy]; exact hx, fun h => by cases h⟩
  cases i with
  | succ i => simp at hy
  | zero =>
    simp at hy
    subst hy
    rw [Nat.zero_mul, Nat.zero_add]
    refine ((Blk.made w #[.int .i64 x.k, .string x.t] T).cell j).trans ?_
    rw [← hv]; simp [TR.enc]
set_option maxHeartbeats 4000000 in
theorem spec_l12Read {s : ByteArray} {w : World} (hz : s.size ≤ 1048576) :
    Calls Tryz.prog 65 #[.string s] w fun e w' => ∃ n a c, e = .returned (.tuple #[.slice a n c, .int .i64 (scT s.data.toList).2]) ∧ Below w.heap.size w w' ∧ OwnTk w' w.heap.size a n c (scT s.data.toList).1 ∧ n ≤ s.size := by
  go_enter Tryz.func65, Tryz.ntmps65
  go_wp2_with fail
  go_loopw [4, 5, 6, 7, 8] (fun s4 s5 _ _ _ wr => ∃ (a f n : Nat) (a1 : Option Addr) (c1 : Nat) (L : List TR), s4 = .slice a1 n c1 ∧ s5 = .int .i64 a ∧ a ≤ s.size ∧ n ≤ a ∧ Below w.heap.size w wr ∧ Hid (s.size - a < f) ∧ Hid (L ++ (scL s.data.toList f a).1 = (scT s.data.toList).1 ∧ (scL s.data.toList f a).2 = (scT s.data.toList).2) ∧ Hid (OwnTk wr w.heap.size a1 n c1 L)) (fun _ s5 _ _ _ _ => s.size - (intOf s5).toNat)
  case atStart => exact ⟨0, s.data.toList.length + 1, 0, _, 0, [], rfl, rfl, by omega, by omega, bel, Lib.hid (by rw [str_len]; omega), Lib.hid ⟨rfl, rfl⟩, Lib.hid (OwnF.emptyk w (fun _ => rfl) (Nat.le_refl _))⟩
  case round =>
    obtain ⟨a, f, n, a1, c1, L, rfl, rfl, ha, hna, hbl, HF, HE, HO⟩ := hrel
    have hsz := hbl.size
    by_cases hlt : a < s.size
    · have hlt' : (a : Int) < (s.size : Int) := by omega
      have hc := str_get hlt
      have KN := spec_l12Next (w := wr) hlt hz
      have he := nx_e hc
      have hk := nx_k (l := s.data.toList) (a := a) (c := s[a])
      have ht := nx_t hc
      rw [str_len] at he ht
      obtain ⟨f', rfl⟩ : ∃ f', f = f' + 1 := ⟨f - 1, by have := HF.out; omega⟩
      have hbad := scL_bad (f := f') hc
      have htok := scL_tok (f := f') hc
      have hskip := scL_skip (f := f') hc
      generalize nxS s.data.toList a s[a] = x at *
      obtain ⟨xk, xt, xe, xo⟩ := x
      simp only at he hk ht hbad htok hskip
      cases xo
      · have hb := hbad rfl
        have HE2 := Lib.hid (show L = (scT s.data.toList).1 ∧ (a : Int) = (scT s.data.toList).2 by have h := HE.out; rw [hb] at h; simpa using h)
        have HK := Lib.hid KN
        clear hb hbad htok hskip KN HE hc ht
        go_wp2_with fail
        refine Calls.mono HK.out ?_
        rintro e w1 ⟨rfl, hb1⟩
        have hs1 := hb1.size
        have HO1 := Lib.hid (HO.out.keep hb1)
        have hbl1 := below_callS hbl hb1
        go_wp2
        refine bodyPost_ret (v := .tuple #[.slice a1 n c1, .int .i64 (a : Int)]) (by simp [results, Tryz.results65, go_sem]) rfl ⟨n, a1, c1, by rw [← HE2.out.2], bel, ?_, by omega⟩
        rw [← HE2.out.1]
        exact HO1.out.keep bel
      · by_cases hk0 : 0 < xk
        · have hb := htok rfl hk0
          have HE2 := Lib.hid (show (L ++ [⟨xk, strL xt⟩]) ++ (scL s.data.toList f' xe).1 = (scT s.data.toList).1 ∧ (scL s.data.toList f' xe).2 = (scT s.data.toList).2 by have h := HE.out; rw [hb] at h; simpa using h)
          have HK := Lib.hid KN
          have hxok : (⟨xk, strL xt⟩ : TR).ok := show I64 xk ∧ (strL xt).size ≤ maxLen from ⟨by unfold I64; omega, by rw [strL_size]; unfold maxLen; omega⟩
          have HX := Lib.hid hxok
          have HF2 := Lib.hid (show s.size - xe < f' by have := HF.out; omega)
          obtain ⟨S, hS⟩ : ∃ S, S = strL xt := ⟨_, rfl⟩
          rw [← hS] at HK HX HE2
          clear hb hbad htok hskip KN HE hc ht hS hxok HF
          go_wp2_with fail
          refine Calls.mono HK.out ?_
          rintro e w1 ⟨rfl, hb1⟩
          have hs1 := hb1.size
          have HO1 := Lib.hid (HO.out.keep hb1)
          have hbl1 := below_callS hbl hb1
          clear hb1 HK
          have hfl := Lib.hid (flats1 (w := w1.alloc (.cells #[.int .i64 xk, .string S] 88)) HX.out 88)
          simp at hfl
          go_wp2_with (at_builtin; refine appendL_F rfl _ _ 36 88 rfl Tryz.underlying36 Tryz.infoTk rfl (by decide) (by decide) TR.one w.heap.size _ _ _ _ (HO1.out.keep (show Below w1.heap.size w1 _ from bel)) rfl _ _ _ _ rfl hfl.out (by omega) (by omega) (by simp; omega) ?_; intro a3 c3 w3 hown3 hb3 hg3 hn3)
          have Hown3 := Lib.hid hown3
          have hbl3 : Below w.heap.size w w3 := Below.trans bel hb3
          clear hown3 hg3 hn3 hfl
          go_roundw
          case rel => exact ⟨xe, f', n + 1, a3, c3, L ++ [⟨xk, S⟩], rfl, rfl, by omega, by omega, hbl3, HF2, HE2, Hown3⟩
          case measure => simp [intOf]; omega
        · have hb := hskip rfl hk0
          have HE2 := Lib.hid (show L ++ (scL s.data.toList f' xe).1 = (scT s.data.toList).1 ∧ (scL s.data.toList f' xe).2 = (scT s.data.toList).2 by have h := HE.out; rw [hb] at h; exact h)
          have HK := Lib.hid KN
          have HF2 := Lib.hid (show s.size - xe < f' by have := HF.out; omega)
          obtain ⟨S, hS⟩ : ∃ S, S = strL xt := ⟨_, rfl⟩
          rw [← hS] at HK
          clear hb hbad htok hskip KN HE hc ht hS HF
          go_wp2_with fail
          refine Calls.mono HK.out ?_
          rintro e w1 ⟨rfl, hb1⟩
          have hs1 := hb1.size
          have HO1 := Lib.hid (HO.out.keep hb1)
          have hbl1 := below_callS hbl hb1
          clear hb1 HK HO
          go_wp2_with fail
          go_roundw
          case rel => exact ⟨xe, f', n, a1, c1, L, rfl, rfl, by omega, by omega, bel, HF2, HE2, Lib.hid (HO1.out.keep bel)⟩
          case measure => simp [intOf]; omega
    · obtain rfl : a = s.size := by omega
      have hlt' : ¬ (s.size : Int) < (s.size : Int) := by omega
      have HE2 := Lib.hid (show L = (scT s.data.toList).1 ∧ -1 = (scT s.data.toList).2 by have h := HE.out; rw [scL_none (by rw [List.getElem?_eq_none_iff, str_len]; exact Nat.le_refl _)] at h; simpa using h)
      go_wp2
      exact bodyPost_ret (v := .tuple #[.slice a1 n c1, .int .i64 (-1)]) (by simp [results, Tryz.results65, go_sem]) rfl ⟨n, a1, c1, by rw [← HE2.out.2], hbl, by rw [← HE2.out.1]; exact HO.out, hna⟩
def ftC (s : ByteArray) : Int × Int := if 6000 < s.size then (0, 3) else ((scT s.data.toList).2, 0)
set_option maxHeartbeats 1000000 in
theorem spec_FirstBadByte {s : ByteArray} {w : World} (hz : s.size ≤ 1048576) : Calls Tryz.prog 20 #[.string s] w fun e w' => e = .returned (.tuple #[.int .i64 (ftC s).1, .int .i64 (ftC s).2]) ∧ Below w.heap.size w w' := by
  by_cases h : 6000 < s.size
  · have HC := Lib.hid (show ftC s = (0, 3) from if_pos h)
    have h' : 6000 < (s.size : Int) := by omega
    go_enter Tryz.func20, Tryz.ntmps20
    go_wp2
    exact bodyPost_ret (v := .tuple #[.int .i64 0, .int .i64 3]) (by simp [results, Tryz.results20, go_sem]) rfl ⟨by rw [HC.out], bel⟩
  · have HC := Lib.hid (show ftC s = ((scT s.data.toList).2, 0) from if_neg h)
    have h' : ¬ 6000 < (s.size : Int) := by omega
    have HK := Lib.hid (fun (wx : World) => spec_l12Read (w := wx) hz)
    go_enter Tryz.func20, Tryz.ntmps20
    go_wp2_with fail
    refine Calls.mono (HK.out _) ?_
    rintro e w1 ⟨n, a, c, rfl, hb1, ho, hn⟩
    clear ho
    go_wp2
    exact bodyPost_ret (v := .tuple #[.int .i64 (scT s.data.toList).2, .int .i64 0]) (by simp [results, Tryz.results20, go_sem]) rfl ⟨by rw [HC.out], hb1⟩
def rtL (s : ByteArray) : List TR := if 6000 < s.size then [] else if 0 ≤ (scT s.data.toList).2 then [] else if 800 < (scT s.data.toList).1.length then [] else (scT s.data.toList).1
def rtC (s : ByteArray) : Int := if 6000 < s.size then 3 else if 0 ≤ (scT s.data.toList).2 then 6 else if 800 < (scT s.data.toList).1.length then 3 else 0
set_option maxHeartbeats 1000000 in
theorem spec_ReadTokens {s : ByteArray} {w : World} (hz : s.size ≤ 1048576) : Calls Tryz.prog 18 #[.string s] w fun e w' => ∃ n a c, e = .returned (.tuple #[.slice a n c, .int .i64 (rtC s)]) ∧ Below w.heap.size w w' ∧ OwnTk w' w.heap.size a n c (rtL s) := by
  have hnil : ∀ wx, OwnTk wx w.heap.size none 0 0 [] := fun wx => ⟨World.ownsRow_nil wx _ _ _, (fun _ h => by cases h), rfl, fun _ => rfl⟩
  have HNIL := Lib.hid hnil
  clear hnil
  by_cases h : 6000 < s.size
  · have HC := Lib.hid (show rtC s = 3 ∧ rtL s = [] from ⟨if_pos h, if_pos h⟩)
    have h' : 6000 < (s.size : Int) := by omega
    go_enter Tryz.func18, Tryz.ntmps18
    go_wp2
    exact bodyPost_ret (v := .tuple #[.slice none 0 0, .int .i64 3]) (by simp [results, Tryz.results18, go_sem]) rfl ⟨0, none, 0, by rw [HC.out.1], bel, by rw [HC.out.2]; exact HNIL.out _⟩
  · have h' : ¬ 6000 < (s.size : Int) := by omega
    have hc : rtC s = (if 0 ≤ (scT s.data.toList).2 then 6 else if 800 < (scT s.data.toList).1.length then 3 else 0) ∧ rtL s = (if 0 ≤ (scT s.data.toList).2 then [] else if 800 < (scT s.data.toList).1.length then [] else (scT s.data.toList).1) := ⟨if_neg h, if_neg h⟩
    have hk := fun (wx : World) => spec_l12Read (w := wx) hz
    generalize scT s.data.toList = r at *
    obtain ⟨r1, r2⟩ := r
    simp only at hc hk
    have HK := Lib.hid hk
    clear hk
    by_cases h2 : 0 ≤ r2
    · rw [if_pos h2, if_pos h2] at hc
      have HC := Lib.hid hc
      clear hc
      go_enter Tryz.func18, Tryz.ntmps18
      go_wp2_with fail
      refine Calls.mono (HK.out _) ?_
      rintro e w1 ⟨n, a, c, rfl, hb1, ho, hn⟩
      clear ho
      go_wp2
      exact bodyPost_ret (v := .tuple #[.slice none 0 0, .int .i64 6]) (by simp [results, Tryz.results18, go_sem]) rfl ⟨0, none, 0, by rw [HC.out.1], hb1, by rw [HC.out.2]; exact HNIL.out _⟩
    · rw [if_neg h2, if_neg h2] at hc
      by_cases h3 : 800 < r1.length
      · rw [if_pos h3, if_pos h3] at hc
        have HC := Lib.hid hc
        have H3 := Lib.hid h3
        clear hc h3
        go_enter Tryz.func18, Tryz.ntmps18
        go_wp2_with fail
        refine Calls.mono (HK.out _) ?_
        rintro e w1 ⟨n, a, c, rfl, hb1, ho, hn⟩
        have hn3 : 800 < (n : Int) := by have h1 := ho.len; have h2 := H3.out; omega
        clear ho
        go_wp2
        exact bodyPost_ret (v := .tuple #[.slice none 0 0, .int .i64 3]) (by simp [results, Tryz.results18, go_sem]) rfl ⟨0, none, 0, by rw [HC.out.1], hb1, by rw [HC.out.2]; exact HNIL.out _⟩
      · rw [if_neg h3, if_neg h3] at hc
        have HC := Lib.hid hc
        have H3 := Lib.hid h3
        clear hc h3
        go_enter Tryz.func18, Tryz.ntmps18
        go_wp2_with fail
        refine Calls.mono (HK.out _) ?_
        rintro e w1 ⟨n, a, c, rfl, hb1, ho, hn⟩
        have hn3 : ¬ 800 < (n : Int) := by have h1 := ho.len; have h2 := H3.out; omega
        have HO := Lib.hid ho
        clear ho
        go_wp2
        exact bodyPost_ret (v := .tuple #[.slice a n c, .int .i64 0]) (by simp [results, Tryz.results18, go_sem]) rfl ⟨n, a, c, by rw [HC.out.1], hb1, by rw [HC.out.2]; exact HO.out⟩
end Go.Proofs.YtjneodmohkpckaaGreatDoor
