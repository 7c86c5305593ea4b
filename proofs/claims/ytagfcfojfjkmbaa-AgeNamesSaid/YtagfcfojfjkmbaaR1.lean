/- Reference: Allows. -/
import Derived.Test.YtagfcfojfjkmbaaN1
import Derived.Test.YtagfcfojfjkmbaaG2
namespace Go.Proofs.Ytagfcfojfjkmbaa
open Go.RowKit Go.Shelf

def alw (fl : Nat → Bool) (day b : Int) : Bool := decide (b ≤ day) && decide ((day - b) / 365 ≤ 120) && fl ((day - b) / 365).toNat
set_option maxRecDepth 100000 in
set_option maxHeartbeats 2000000 in
theorem allows_any (day rule num : Int) (fl : Nat → Bool) (b : Int) (w : World) (h0 : -50000 ≤ day) (h1 : day ≤ 50000) (h2 : -50000 ≤ b) (h3 : b ≤ 50000) :
    Calls Try.prog 97 #[.agg #[.int .i64 day, .int .i64 rule, .int .i64 num], .agg (flagsA fl), .int .i64 b] w fun e w' => e = .returned (.bool (alw fl day b)) ∧ Below w.heap.size w w' := by
  have HB : Hid (Below w.heap.size w ((w.alloc (.cells #[.int .i64 day, .int .i64 rule, .int .i64 num] 59)).alloc (.cells (flagsA fl) 94))) := (below_alloc _ _).alloc (by simp) _
  have hblk : ((w.alloc (.cells #[.int .i64 day, .int .i64 rule, .int .i64 num] 59)).alloc (.cells (flagsA fl) 94)).heap[w.heap.size + 1]? = some (.cells (flagsA fl) 94 (0, 0)) := by
    have := heap_alloc_new (w.alloc (.cells #[.int .i64 day, .int .i64 rule, .int .i64 num] 59)) (.cells (flagsA fl) 94)
    rw [World.size_alloc] at this; exact this
  by_cases hb : b ≤ day
  · have hq0 : 0 ≤ (day - b) / 365 := Int.ediv_nonneg (by omega) (by omega)
    by_cases hq : (day - b) / 365 ≤ 120
    · have HA : Hid (alw fl day b = fl ((day - b) / 365).toNat) := by unfold Hid alw; simp [hb, hq]
      have hcell : ((w.alloc (.cells #[.int .i64 day, .int .i64 rule, .int .i64 num] 59)).alloc (.cells (flagsA fl) 94)).cell? ⟨w.heap.size + 1, ((day - b) / 365).toNat, none⟩ = some (.bool (fl ((day - b) / 365).toNat)) := by
        rw [cell_of_row _ _ _ _ _ _ hblk]; exact flagsA_get fl _ (by omega)
      have hn : (((day - b) / 365).toNat : Int) = (day - b) / 365 := by omega
      have hq1 : (day - b) / 365 < 121 := by omega
      clear hblk hn
      go_enter Try.func97, Try.ntmps97
      go_wp2_with (with_reducible refine wpList_box_row (o := ⟨some 4, .box 94 (.tmp 1), _, _, _, _⟩) rfl 94 (.tmp 1) rfl (flagsA fl) ?bx0 ?_)
      case bx0 => rfl
      go_ret
      exact ⟨ret_bool HA.out.symm, HB.out⟩
    · have HA : Hid (alw fl day b = false) := by unfold Hid alw; simp [hq]
      clear hblk
      go_enter Try.func97, Try.ntmps97
      go_wp2
      go_ret
      exact ⟨ret_bool HA.out.symm, HB.out⟩
  · have HA : Hid (alw fl day b = false) := by unfold Hid alw; simp [hb]
    clear hblk
    go_enter Try.func97, Try.ntmps97
    go_wp2
    go_ret
    exact ⟨ret_bool HA.out.symm, HB.out⟩
end Go.Proofs.Ytagfcfojfjkmbaa
