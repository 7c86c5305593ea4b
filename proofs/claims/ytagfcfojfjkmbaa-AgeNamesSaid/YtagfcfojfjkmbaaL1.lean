/- A rule of the reference as an argument, opened. -/
import Derived.Test.YtagfcfojfjkmbaaL0
import Derived.Lib.SmallJoins
namespace Go.Proofs.Ytagfcfojfjkmbaa
open Go.ChangeShapes Go.WideShapes Go.ChangeAt Go.RowKit

set_option maxRecDepth 100000 in
theorem open_rule {H : Type} {enc : TypeId × Value → H} {W : World} {base : Nat} {v : Value} {d : DataW H} {p : List MemPlace} (hv : Value.okWide Try.prog W .any base 77 v) (h : DataW.Trod enc Try.prog W 0 (fun _ => true) true 77 v d p) :
    ∃ f b m e : Int, v = .agg #[.int .i64 f, .int .i64 b, .int .i64 m, .int .i64 e] := by
  obtain ⟨v0, v1, v2, v3, y0, y1, y2, y3, n, rfl, _, _, h0, h1, h2, h3⟩ := Go.Joins.open_agg4 Try.underlying77 (by kernel_rfl) (by kernel_rfl) hv h
  obtain ⟨f, e0, _⟩ := DataW.trod_int Try.underlying3 h0
  obtain ⟨b, e1, _⟩ := DataW.trod_int Try.underlying3 h1
  obtain ⟨m, e2, _⟩ := DataW.trod_int Try.underlying3 h2
  obtain ⟨e, e3, _⟩ := DataW.trod_int Try.underlying3 h3
  cases e0; cases e1; cases e2; cases e3
  exact ⟨f, b, m, e, rfl⟩
end Go.Proofs.Ytagfcfojfjkmbaa
