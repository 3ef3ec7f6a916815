/- Tests and rules of a ride: small parts, walked. -/
import Derived.Test.YtfhogleillgcgaaDoorL24n
namespace Go.Proofs.YtfhogleillgcgaaDoor
open Go.RowKit
set_option linter.unusedVariables false
set_option linter.unusedSimpArgs false
/-- a rule of a ride as it lies in memory: its name, its guard's and its effect's slice, its kind and two numbers -/
structure RR where
  nm : ByteArray
  ga : Option Addr
  gn : Nat
  gc : Nat
  ea : Option Addr
  en : Nat
  ec : Nat
  x : I3
def RR.enc (r : RR) : List Value := [.string r.nm, .slice r.ga r.gn r.gc, .slice r.ea r.en r.ec, .int .i64 r.x.a, .int .i64 r.x.b, .int .i64 r.x.c]
theorem RR.one (y : RR) : ∀ u ∈ y.enc, u.oneCell' = true := fun u hu => by
  simp only [RR.enc, List.mem_cons, List.not_mem_nil, or_false] at hu
  rcases hu with rfl | rfl | rfl | rfl | rfl | rfl <;> rfl
theorem impl_is {x y : Int} {w : World} : Calls Tryd.prog 110 #[.int .i64 x, .int .i64 y] w fun e w' => e = .returned (.agg #[.int .i64 x, .int .i64 y, .bool true]) ∧ Below w.heap.size w w' := by
  go_enter Tryd.func110, Tryd.ntmps110
  go_wp2
  exact bodyPost_ret (v := .agg #[.int .i64 x, .int .i64 y, .bool true]) (by simp [results, Tryd.results110, go_sem]) rfl ⟨rfl, by repeat (first | exact Below.refl _ _ | assumption | refine below_allocS ?_ _ | refine below_callS ?_ (by assumption) | (refine Below.alloc ?_ (by first | omega | (simp; done) | (simp; omega)) _) | (refine Below.setCell ?_ (by first | omega | (simp; done) | (simp; omega)) _) | refine Below.drew ?_ | refine below_drewN ?_ _ | (refine below_call ?_ (by assumption) (by first | omega | (simp; done) | (simp; omega))) | (refine Below.trans ?_ (by assumption)))⟩
theorem impl_isNot {x y : Int} {w : World} : Calls Tryd.prog 111 #[.int .i64 x, .int .i64 y] w fun e w' => e = .returned (.agg #[.int .i64 x, .int .i64 y, .bool false]) ∧ Below w.heap.size w w' := by
  go_enter Tryd.func111, Tryd.ntmps111
  go_wp2
  exact bodyPost_ret (v := .agg #[.int .i64 x, .int .i64 y, .bool false]) (by simp [results, Tryd.results111, go_sem]) rfl ⟨rfl, by repeat (first | exact Below.refl _ _ | assumption | refine below_allocS ?_ _ | refine below_callS ?_ (by assumption) | (refine Below.alloc ?_ (by first | omega | (simp; done) | (simp; omega)) _) | (refine Below.setCell ?_ (by first | omega | (simp; done) | (simp; omega)) _) | refine Below.drew ?_ | refine below_drewN ?_ _ | (refine below_call ?_ (by assumption) (by first | omega | (simp; done) | (simp; omega))) | (refine Below.trans ?_ (by assumption)))⟩
theorem impl_length_rr {a : Option Addr} {n c : Nat} {w : World} : Calls Tryd.prog 56 #[.slice a n c] w fun e w' => e = .returned (.int .i64 n) ∧ w = w' := by
  go_enter Tryd.func56, Tryd.ntmps56
  go_wp2
  go_ret
  exact ⟨rfl, rfl⟩
end Go.Proofs.YtfhogleillgcgaaDoor
