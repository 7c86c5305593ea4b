/- Contracts of small functions of package age. -/
import Derived.Test.YtagfcfojfjkmbaaRows
import Derived.WalkKit
import Derived.WalkSpells
import Derived.WalkLawsBesides
import Derived.Lib.Hide
import Derived.Deep.RegionHeld3
import Derived.Deep.DrawnRows
namespace Go.Proofs.Ytagfcfojfjkmbaa
open Go.RowKit

def inB (n lo hi : Int) : Bool := decide (lo ≤ n) && decide (n ≤ hi)

set_option maxHeartbeats 400000 in
theorem within_any (a b c : Int) (w : World) :
    Calls Try.prog 62 #[.int .i64 a, .int .i64 b, .int .i64 c] w fun e w' => e = .returned (.bool (inB a b c)) ∧ w = w' := by
  go_enter Try.func62, Try.ntmps62
  go_wp2
  all_goals go_ret
  all_goals (refine ⟨?_, rfl⟩; congr 2; simp [inB]; omega)

set_option maxHeartbeats 400000 in
theorem isDay_any (a : Int) (w : World) :
    Calls Try.prog 66 #[.int .i64 a] w fun e w' => e = .returned (.bool (inB a (-50000) 50000)) ∧ w = w' := by
  go_enter Try.func66, Try.ntmps66
  go_wp2_with (go_at_call 62; refine (within_any _ _ _ _).mono ?_; rintro e w' ⟨rfl, rfl⟩)
  go_ret
  exact ⟨rfl, rfl⟩

set_option maxHeartbeats 400000 in
theorem isWritten_any (a : Int) (w : World) :
    Calls Try.prog 64 #[.int .i64 a] w fun e w' => e = .returned (.bool (inB a 0 140)) ∧ w = w' := by
  go_enter Try.func64, Try.ntmps64
  go_wp2_with (go_at_call 62; refine (within_any _ _ _ _).mono ?_; rintro e w' ⟨rfl, rfl⟩)
  go_ret
  exact ⟨rfl, rfl⟩

def ruleV (f b m e : Int) : Value := .agg #[.int .i64 f, .int .i64 b, .int .i64 m, .int .i64 e]
def okRule (f b m e : Int) : Bool := inB f 0 120 && inB b 1 12 && inB m 0 1 && inB e 0 5

set_option maxHeartbeats 400000 in
theorem down_any (f b m e k : Int) (w : World) (hb : 1 ≤ b) (hb2 : b ≤ 12) (hk : 0 ≤ k) (hk2 : k ≤ 1000) :
    Calls Try.prog 109 #[ruleV f b m e, .int .i64 k] w fun r w' => r = .returned (.int .i64 (k - k % b)) ∧ Below w.heap.size w w' := by
  unfold ruleV
  have h1 := Int.emod_nonneg k (by omega : b ≠ 0)
  have h2 := Int.emod_lt_of_pos k (by omega : 0 < b)
  have hbz : (b == 0) = false := by simp; omega
  have hbm : (b == -1) = false := by simp; omega
  go_enter Try.func109, Try.ntmps109
  go_wp2
  go_ret
  exact ⟨rfl, (Below.refl _ _).alloc (Nat.le_refl _) _⟩

set_option maxHeartbeats 400000 in
theorem near_any (f b m e k : Int) (w : World) (hb : 1 ≤ b) (hb2 : b ≤ 12) (hk : 0 ≤ k) (hk2 : k ≤ 900) :
    Calls Try.prog 110 #[ruleV f b m e, .int .i64 k] w fun r w' => r = .returned (.int .i64 (k + b / 2 - (k + b / 2) % b)) ∧ Below w.heap.size w w' := by
  unfold ruleV
  go_enter Try.func110, Try.ntmps110
  go_wp2_with (go_at_call 109; refine (down_any _ _ _ _ _ _ (by omega) (by omega) (by omega) (by omega)).mono ?_; rintro e w' ⟨rfl, hb⟩)
  go_ret
  exact ⟨rfl, ((Below.refl _ _).alloc (Nat.le_refl _) _).trans (hb.mono (by simp))⟩

end Go.Proofs.Ytagfcfojfjkmbaa
