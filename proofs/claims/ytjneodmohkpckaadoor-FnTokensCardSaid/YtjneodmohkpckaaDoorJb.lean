/- StandardText of the program, walked. -/
import Derived.Test.YtjneodmohkpckaaDoorJa
namespace Go.Proofs.YtjneodmohkpckaaDoor
open Go.RowKit
set_option linter.unusedVariables false
set_option linter.unusedSimpArgs false
def stS (l : List TR) : ByteArray := if tksC l = 0 then ⟨(txL l l.length).toArray⟩ else ⟨#[]⟩
theorem impl_StandardText {a : Option Addr} {n c : Nat} {l : List TR} {w : World} (hL : LV w) (hT : Tab w 0 (strsCells kwNm)) (hI : FW w a n c l) (hn : n ≤ 1000) (hz : ∀ x ∈ l, x.t.size ≤ 13) : Calls Tryd.prog 7 #[.slice a n c] w fun e w' => e = .returned (.tuple #[.string (stS l), .int .i64 (tksC l)]) ∧ Below w.heap.size w w' := by
  have K := Lib.hid (impl_tokensCode hL hI (by omega))
  have KS := Lib.hid (fun (wx : World) (hb : Below w.heap.size w wx) => impl_standardText (hT.keep hb) (hI.keep hb) hn hz)
  have HS := Lib.hid (show stS l = if tksC l = 0 then ⟨(txL l n).toArray⟩ else ⟨#[]⟩ by rw [stS, hI.len])
  clear hL hT hI hz
  generalize stS l = S at *
  generalize tksC l = t at *
  by_cases ht : t = 0
  · subst ht
    have H := Lib.hid (show S = ⟨(txL l n).toArray⟩ by rw [HS.out]; rfl)
    clear HS
    go_enter Tryd.func7, Tryd.ntmps7
    go_wp2_with fail
    refine Calls.mono K.out ?_
    rintro e w1 ⟨rfl, hb1⟩
    go_wp2_with fail
    refine Calls.mono (KS.out _ hb1) ?_
    rintro e w2 ⟨rfl, hb2⟩
    go_wp2
    exact bodyPost_ret (v := .tuple #[.string ⟨(txL l n).toArray⟩, .int .i64 0]) (by simp [results, Tryd.results7, go_sem]) rfl ⟨by rw [H.out], below_callS hb1 hb2⟩
  · have ht' : (t != 0) = true := by simpa using ht
    have H := Lib.hid (show S = ⟨#[]⟩ by rw [HS.out, if_neg ht])
    clear HS
    go_enter Tryd.func7, Tryd.ntmps7
    go_wp2_with fail
    refine Calls.mono K.out ?_
    rintro e w1 ⟨rfl, hb1⟩
    go_wp2
    exact bodyPost_ret (v := .tuple #[.string ⟨#[]⟩, .int .i64 t]) (by simp [results, Tryd.results7, go_sem]) rfl ⟨by rw [H.out], hb1⟩
end Go.Proofs.YtjneodmohkpckaaDoor
