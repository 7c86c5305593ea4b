/- Walk: the plain model of a map; contracts of small functions. -/
import Derived.Test.YtpnkgjkoophckaaFG
namespace Go.Proofs.Ytpnkgjkoophckaa
open Go.RowKit Go.Shelf

abbrev R2 := Int × Int
/-- A map, as lengths and functions. -/
structure Mp where
  nw : Nat
  wk : Nat → R2
  nr : Nat
  ra : Nat → Int
  rb : Nat → Int
  rt : Nat → R2
def insideR (r : R2) (lo hi : Int) : Bool := decide (lo ≤ r.1) && decide (r.1 ≤ r.2) && decide (r.2 ≤ hi)
def joinsB (a b x y : Int) : Bool := decide (a = x) && decide (b = y) || decide (a = y) && decide (b = x)
set_option maxHeartbeats 400000 in
theorem within_any (a b c : Int) (w : World) :
    Calls Try.prog 75 #[.int .i64 a, .int .i64 b, .int .i64 c] w fun e w' => e = .returned (.bool (inB a b c)) ∧ w = w' := by
  go_enter Try.func75, Try.ntmps75
  go_wp2
  all_goals go_ret
  all_goals (refine ⟨?_, rfl⟩; congr 2; simp [inB]; omega)
set_option maxHeartbeats 1000000 in
theorem inside_any (a b lo hi : Int) (w : World) :
    Calls Try.prog 106 #[.agg #[.int .i64 a, .int .i64 b], .int .i64 lo, .int .i64 hi] w fun e w' => e = .returned (.bool (insideR (a, b) lo hi)) ∧ Below w.heap.size w w' := by
  go_enter Try.func106, Try.ntmps106
  go_wp2
  all_goals go_ret
  all_goals (refine ⟨?_, below_alloc _ _⟩; congr 2; simp [insideR]; omega)
set_option maxHeartbeats 1000000 in
theorem has_any (a b n : Int) (w : World) :
    Calls Try.prog 110 #[.agg #[.int .i64 a, .int .i64 b], .int .i64 n] w fun e w' => e = .returned (.bool (inB n a b)) ∧ Below w.heap.size w w' := by
  go_enter Try.func110, Try.ntmps110
  go_wp2_with (go_at_call 75; refine (within_any _ _ _ _).mono ?_; rintro _ w1 ⟨rfl, rfl⟩)
  go_ret
  exact ⟨rfl, below_alloc _ _⟩
set_option maxHeartbeats 1000000 in
theorem work_any (a b : Int) (w : World) :
    Calls Try.prog 84 #[.agg #[.int .i64 a, .int .i64 b]] w fun e w' => e = .returned (.bool (insideR (a, b) 0 50)) ∧ Below w.heap.size w w' := by
  go_enter Try.func84, Try.ntmps84
  go_wp2_with (go_at_call 106; refine (inside_any _ _ _ _ _).mono ?_; rintro _ w1 ⟨rfl, hb1⟩)
  go_ret
  exact ⟨rfl, below_step (below_alloc _ _) hb1⟩
set_option maxHeartbeats 2000000 in
theorem joins_any (a b lo hi x y : Int) (w : World) :
    Calls Try.prog 118 #[.agg #[.int .i64 a, .int .i64 b, .int .i64 lo, .int .i64 hi], .int .i64 x, .int .i64 y] w fun e w' => e = .returned (.bool (joinsB a b x y)) ∧ Below w.heap.size w w' := by
  go_enter Try.func118, Try.ntmps118
  go_wp2
  all_goals go_ret
  all_goals (refine ⟨ret_bool ?_, below_alloc _ _⟩; unfold joinsB; rw [Bool.eq_iff_iff]; simp; omega)
set_option maxHeartbeats 1000000 in
theorem place_any (wa ra : Option Addr) (wc rc nw nr : Nat) (n : Int) (w : World) (hn : nw ≤ 1000000) :
    Calls Try.prog 66 #[.agg #[.slice wa nw wc, .slice ra nr rc], .int .i64 n] w fun e w' => e = .returned (.bool (inB n 0 ((nw : Int) - 1))) ∧ Below w.heap.size w w' := by
  have h1 : IntKind.i64.wrap ((nw : Int) - 1) = (nw : Int) - 1 := IntWalk.i64_in _ (by omega)
  go_enter Try.func66, Try.ntmps66
  go_wp2_with (go_at_call 75; refine (within_any _ _ _ _).mono ?_; rintro _ w1 ⟨rfl, rfl⟩)
  go_ret
  exact ⟨rfl, below_alloc _ _⟩
end Go.Proofs.Ytpnkgjkoophckaa
