/- A range of the reference, and a slice of its records, as arguments, opened. -/
import Derived.Test.YtagfcfojfjkmbaaL2
namespace Go.Proofs.Ytagfcfojfjkmbaa
open Go.ChangeShapes Go.WideShapes Go.ChangeAt Go.RowKit

set_option maxRecDepth 100000 in
theorem open_range {H : Type} {enc : TypeId × Value → H} {W : World} {base : Nat} {v : Value} {d : DataW H} {p : List MemPlace} (hv : Value.okWide Try.prog W .any base 32 v) (h : DataW.Trod enc Try.prog W 0 (fun _ => true) true 32 v d p) :
    ∃ lo hi : Int, v = .agg #[.int .i64 lo, .int .i64 hi] := by
  obtain ⟨cs, rfl, hsz⟩ := okWide_struct Try.underlying32 hv
  have hsz2 : cs.size = 2 := hsz.trans (by kernel_rfl)
  obtain ⟨fuel, hf⟩ := h
  obtain ⟨z0, z1, m, _, _, g0, g1⟩ := trod_struct2 Try.underlying32 hf
  have k1 : Try.prog.cellsOf 3 = 1 := by kernel_rfl
  match cs, hsz2 with
  | ⟨[c0, c1]⟩, _ =>
    simp only [Value.cells, k1, List.drop, List.take] at g0 g1
    obtain ⟨lo, e0, _⟩ := DataW.trod_int Try.underlying3 g0
    obtain ⟨hi, e1, _⟩ := DataW.trod_int Try.underlying3 g1
    simp at e0 e1
    subst e0 e1
    exact ⟨lo, hi, rfl⟩
set_option maxRecDepth 100000 in
theorem open_recs {H : Type} {enc : TypeId × Value → H} {W : World} {base : Nat} {v : Value} {d : DataW H} {p : List MemPlace} (hv : Value.okWide Try.prog W .any base 34 v) (h : DataW.Trod enc Try.prog W 0 (fun _ => true) true 34 v d p) :
    ∃ n C, RcsIn W v n C ∧ n ≤ maxLen := by
  obtain ⟨a0, len, cap, rfl⟩ := okWide_slice Try.underlying34 hv
  obtain ⟨fuel, hf⟩ := h
  exact open_rcs hf
end Go.Proofs.Ytagfcfojfjkmbaa
