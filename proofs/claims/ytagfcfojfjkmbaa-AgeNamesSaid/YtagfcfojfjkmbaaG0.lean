/- Plain laws: what the reference writes is what the program writes. -/
import Derived.Test.YtagfcfojfjkmbaaF0
namespace Go.Proofs.Ytagfcfojfjkmbaa

def awy (x y : Int) : Int := max (x - y) (y - x)
/-- The best multiple after j multiples were tried. -/
def wB (b m k : Int) : Nat → Int
  | 0 => 0
  | j + 1 => if (m = 0 ∧ b * j ≤ k) ∨ (m = 1 ∧ awy (b * j) k ≤ awy (wB b m k j) k) then b * j else wB b m k j
theorem wB_bd (b m k : Int) (hb : 1 ≤ b) (j : Nat) : 0 ≤ wB b m k j ∧ (wB b m k j = 0 ∨ wB b m k j ≤ b * ((j : Int) - 1)) := by
  induction j with
  | zero => simp [wB]
  | succ j ih =>
    have h1 : 0 ≤ b * (j : Int) := Int.mul_nonneg (by omega) (by omega)
    rw [wB]
    have e : b * (((j + 1 : Nat) : Int) - 1) = b * j := by congr 1; omega
    rw [e]
    split
    · exact ⟨h1, .inr (Int.le_refl _)⟩
    · refine ⟨ih.1, ih.2.imp id (fun h => ?_)⟩
      have : b * ((j : Int) - 1) = b * j - b := by rw [Int.mul_sub, Int.mul_one]
      omega
theorem wB_form (b m k : Int) (hb : 1 ≤ b) (hb2 : b ≤ 12) (hm : m = 0 ∨ m = 1) (hk : 0 ≤ k) (hk2 : k ≤ 125) (j : Nat) (hj : 0 < j) : wB b m k j = b * min ((j : Int) - 1) ((k + (if m = 0 then 0 else b / 2)) / b) := by
  induction j with
  | zero => omega
  | succ j ih =>
    rcases Nat.eq_zero_or_pos j with rfl | hj'
    · have h0 : wB b m k (0 + 1) = 0 := by rw [wB]; simp [wB]
      rw [h0]
      have : (0 : Int) ≤ (k + (if m = 0 then 0 else b / 2)) / b := Int.ediv_nonneg (by split <;> omega) (by omega)
      rw [show min (((0 + 1 : Nat) : Int) - 1) ((k + (if m = 0 then 0 else b / 2)) / b) = 0 from by omega]; simp
    · have ih := ih hj'
      rw [wB, ih]
      have hbc : b = 1 ∨ b = 2 ∨ b = 3 ∨ b = 4 ∨ b = 5 ∨ b = 6 ∨ b = 7 ∨ b = 8 ∨ b = 9 ∨ b = 10 ∨ b = 11 ∨ b = 12 := by omega
      clear ih
      rcases hm with rfl | rfl <;> rcases hbc with rfl | rfl | rfl | rfl | rfl | rfl | rfl | rfl | rfl | rfl | rfl | rfl <;> simp [awy] <;> split <;> omega
theorem wB_end (f b m k : Int) (hb : 1 ≤ b) (hb2 : b ≤ 12) (hm : m = 0 ∨ m = 1) (hk : 0 ≤ k) (hk2 : k ≤ 125) (hf : f ≤ k) (j : Nat) (hj : 140 < b * j) : wB b m k j = wrt f b m k := by
  have hj0 : 0 < j := by
    rcases Nat.eq_zero_or_pos j with rfl | h
    · simp at hj
    · exact h
  rw [wB_form b m k hb hb2 hm hk hk2 j hj0]
  unfold wrt
  rw [if_neg (show ¬ k < f by omega)]
  have hbc : b = 1 ∨ b = 2 ∨ b = 3 ∨ b = 4 ∨ b = 5 ∨ b = 6 ∨ b = 7 ∨ b = 8 ∨ b = 9 ∨ b = 10 ∨ b = 11 ∨ b = 12 := by omega
  rcases hm with rfl | rfl <;> rcases hbc with rfl | rfl | rfl | rfl | rfl | rfl | rfl | rfl | rfl | rfl | rfl | rfl <;> simp <;> omega
end Go.Proofs.Ytagfcfojfjkmbaa
