/- Tokens of the reference, walked. -/
import Derived.Test.YtipkncjjkkijfaaGreatDoorT12s
import Derived.Laws.Strings2
namespace Go.Proofs.YtipkncjjkkijfaaGreatDoor
open Go.RowKit
set_option linter.unusedVariables false
set_option linter.unusedSimpArgs false
theorem str_get {s : ByteArray} {k : Nat} (h : k < s.size) : s.data.toList[k]? = some s[k] := by
  rw [List.getElem?_eq_getElem (by simpa using h)]; rfl
theorem str_len (s : ByteArray) : s.data.toList.length = s.size := by simp
theorem wrdB_eq {l : List UInt8} {n : Nat} (h : l.length = n) : wrdB l = (inB (n : Int) 1 12 && (l.head?.any letP && l.all innP)) := by
  rw [wrdB, h, inB]
  congr 1
  congr 1
  · exact decide_eq_decide.2 (by omega)
  · exact decide_eq_decide.2 (by omega)
/-- a token as it is meant: its kind (0: none), its text, its end, whether it is right -/
structure TN where
  k : Int
  t : List UInt8
  e : Nat
  ok : Bool
def subL (l : List UInt8) (a e : Nat) : List UInt8 := (l.drop a).take (e - a)
def no10 (c : UInt8) : Bool := decide (c.toNat ≠ 10)
def nxS (l : List UInt8) (a : Nat) (c : UInt8) : TN :=
  if c.toNat = 32 ∨ c.toNat = 10 then ⟨0, [], a + 1, true⟩
  else if c.toNat = 35 then ⟨0, [], a + runL no10 (l.drop a), true⟩
  else if letP c = true then ⟨1, subL l a (a + runL innP (l.drop a)), a + runL innP (l.drop a), wrdB (subL l a (a + runL innP (l.drop a)))⟩
  else if digP c = true then ⟨2, subL l a (a + runL digP (l.drop a)), a + runL digP (l.drop a), numB (subL l a (a + runL digP (l.drop a))) && !(l[a + runL digP (l.drop a)]?.any innP)⟩
  else ⟨3, [c], a + 1, sgnP c⟩
def strL (l : List UInt8) : ByteArray := ⟨l.toArray⟩
theorem ext_sub (s : ByteArray) (a e : Nat) : s.extract a e = strL (subL s.data.toList a e) := by
  have h : s = ⟨s.data.toList.toArray⟩ := by cases s; simp
  conv => lhs; rw [h]
  rw [ByteArray.extract_mk]
  rfl
theorem sub_len {s : ByteArray} {a e : Nat} (h1 : a ≤ e) (h2 : e ≤ s.size) : (subL s.data.toList a e).length = e - a := by
  rw [subL, List.length_take, List.length_drop, str_len]; omega
theorem strL_list (l : List UInt8) : (strL l).data.toList = l := by simp [strL]
theorem strL_size (l : List UInt8) : (strL l).size = l.length := by simp [strL, ByteArray.size]
theorem run_sub (s : ByteArray) (a k : Nat) (w : World) (h : a + k ≤ s.size) : (Instr.slice 9 (.string s) (some (.int .i64 (a : Int))) (some (.int .i64 ((a : Int) + (k : Int)))) none).run Tryz.prog w = .ok (.string (strL (subL s.data.toList a (a + k)))) w := by
  rw [run_slice_string (P := Tryz.prog) (t := 9) (s := s) (k := .i64) (k' := .i64) (i := (a : Int)) (j := (a : Int) + k) (h := Tryz.underlying9) (h0 := by omega) (h1 := by omega) (h2 := by omega), ← ext_sub]
  congr 3
theorem run_sub1 (s : ByteArray) (a : Nat) (w : World) (h : a < s.size) : (Instr.slice 9 (.string s) (some (.int .i64 (a : Int))) (some (.int .i64 ((a : Int) + 1))) none).run Tryz.prog w = .ok (.string ⟨#[s[a]]⟩) w := by
  have h1 := run_sub s a 1 w (by omega)
  have h2 : strL (subL s.data.toList a (a + 1)) = ⟨#[s[a]]⟩ := by
    rw [subL, show a + 1 - a = 1 by omega]
    have h3 : (s.data.toList.drop a)[0]? = some s[a] := by rw [List.getElem?_drop, Nat.add_zero]; exact str_get h
    rw [take_at h3]; rfl
  rw [h2] at h1
  exact h1
end Go.Proofs.YtipkncjjkkijfaaGreatDoor
