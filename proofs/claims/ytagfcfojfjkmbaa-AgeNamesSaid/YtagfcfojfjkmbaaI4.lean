/- Equality of ranges. -/
import Derived.Test.YtagfcfojfjkmbaaI3
import Derived.Test.YtagfcfojfjkmbaaN4
import Derived.Laws.StructEq
import Derived.ChangeKeysEq
namespace Go.Proofs.Ytagfcfojfjkmbaa
open Go.RowKit Go.Shelf

theorem fields_range : (Try.prog.fieldsOf 41).toList.map (fun f => (f.name ≠ "_" : Bool)) = [true, true] ∧ (Try.prog.fieldsOf 41).toList.map (·.type) = [3, 3] ∧ (Try.prog.fieldsOf 41).toList.map (·.offset) = [0, 1] :=
  ⟨by kernel_rfl, by kernel_rfl, by kernel_rfl⟩
theorem eq_range (a b c d : Int) (W : World) : (Op.equalIn 10000 41 (.agg #[.int .i64 a, .int .i64 b]) (.agg #[.int .i64 c, .int .i64 d])).run Try.prog W = .ok (a == c && b == d) W := by
  have hu : Try.prog.underlying 41 = some (.struct (Try.prog.fieldsOf 41)) := by kernel_rfl
  have hp : Try.prog.stoodInHeld 41 = false := by kernel_rfl
  have hk : Try.prog.plainKey 3 = true := by kernel_rfl
  obtain ⟨h1, h2, h3⟩ := fields_range
  rw [run_equalIn_struct W 9999 41 _ _ hu hp]
  generalize (Try.prog.fieldsOf 41).toList = fs at *
  obtain ⟨f0, f1, rfl⟩ : ∃ f0 f1, fs = [f0, f1] := by
    have hl := congrArg List.length h2
    rw [List.length_map] at hl
    exact ⟨fs[0]'(by simp [hl]), fs[1]'(by simp [hl]), List.ext_getElem (by simpa using hl) (fun i hi _ => by
      have : i = 0 ∨ i = 1 := by simp at hl; omega
      rcases this with rfl | rfl <;> rfl)⟩
  simp only [List.map_cons, List.map_nil, List.cons.injEq, and_true, decide_eq_true_eq] at h1 h2 h3
  obtain ⟨n0, n1⟩ := h1
  obtain ⟨t0, t1⟩ := h2
  obtain ⟨o0, o1⟩ := h3
  have p0 := run_part_plain (w := W) hk (xs := #[.int .i64 a, .int .i64 b]) (off := 0) (v := .int .i64 a) rfl
  have p1 := run_part_plain (w := W) hk (xs := #[.int .i64 a, .int .i64 b]) (off := 1) (v := .int .i64 b) rfl
  have p2 := run_part_plain (w := W) hk (xs := #[.int .i64 c, .int .i64 d]) (off := 0) (v := .int .i64 c) rfl
  have p3 := run_part_plain (w := W) hk (xs := #[.int .i64 c, .int .i64 d]) (off := 1) (v := .int .i64 d) rfl
  have q0 := run_equalIn_int W 9998 3 .i64 .i64 a c Try.underlying3
  have q1 := run_equalIn_int W 9998 3 .i64 .i64 b d Try.underlying3
  simp only [Op.eqFields, n0, n1, t0, t1, o0, o1, ne_eq, not_false_eq_true, if_true, Sem.run_bind, Result.andThen_ok, p0, p2, q0]
  cases h0 : (a == c)
  · rfl
  · simp only [Bool.not_true, Bool.false_eq_true, if_false, Sem.run_bind, Result.andThen_ok, p1, p3, q1]
    cases h1 : (b == d) <;> rfl
theorem eql_range (a b c d : Int) (W : World) : (binOp .eql 41 (.agg #[.int .i64 a, .int .i64 b]) (.agg #[.int .i64 c, .int .i64 d])).run Try.prog W = .ok (.bool (a == c && b == d)) W := by
  rw [run_eql_struct, eq_range]; rfl
theorem neq_range (a b c d : Int) (W : World) : (binOp .neq 41 (.agg #[.int .i64 a, .int .i64 b]) (.agg #[.int .i64 c, .int .i64 d])).run Try.prog W = .ok (.bool (!(a == c && b == d))) W := by
  rw [run_neq_struct, eq_range]; rfl
end Go.Proofs.Ytagfcfojfjkmbaa
