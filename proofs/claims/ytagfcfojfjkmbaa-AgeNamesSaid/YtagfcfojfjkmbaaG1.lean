/- Contracts of the reference: away, Write, Can. -/
import Derived.Test.YtagfcfojfjkmbaaF3
import Derived.Test.YtagfcfojfjkmbaaG0
namespace Go.Proofs.Ytagfcfojfjkmbaa
open Go.RowKit Go.Shelf

set_option maxHeartbeats 1000000 in
theorem away_any (x y : Int) (w : World) (hx : -1000000 ≤ x) (hx2 : x ≤ 1000000) (hy : -1000000 ≤ y) (hy2 : y ≤ 1000000) :
    Calls Try.prog 86 #[.int .i64 x, .int .i64 y] w fun e w' => e = .returned (.int .i64 (awy x y)) ∧ w = w' := by
  go_enter Try.func86, Try.ntmps86
  go_wp2
  all_goals go_ret
  all_goals exact ⟨ret_int (by unfold awy; omega), rfl⟩

set_option maxRecDepth 100000 in
set_option maxHeartbeats 4000000 in
theorem refWrite_any (f b m e k : Int) (w : World) (hr : okRule f b m e = true) (hk : 0 ≤ k) (hk2 : k ≤ 125) :
    Calls Try.prog 53 #[.agg #[.int .i64 f, .int .i64 b, .int .i64 m, .int .i64 e], .int .i64 k] w fun r w' => r = .returned (.int .i64 (wrt f b m k)) ∧ Below w.heap.size w w' := by
  obtain ⟨g0, g1, g2, g3, g4, g5, g6, g7⟩ := okRule_bd hr
  clear hr
  by_cases hkf : k < f
  · have HW : Hid (wrt f b m k = k) := by unfold Hid wrt; rw [if_pos hkf]
    go_enter Try.func53, Try.ntmps53
    go_wp2
    go_ret
    exact ⟨ret_int HW.out.symm, below_alloc _ _⟩
  · have hm01 : m = 0 ∨ m = 1 := by omega
    have HEND := Lib.hid (fun j => wB_end f b m k g2 g3 hm01 hk hk2 (by omega) j)
    rcases hm01 with rfl | rfl
    · have hm0 : ((0 : Int) == 0) = true := rfl
      go_enter Try.func53, Try.ntmps53
      go_wp2
      go_loop [5, 6] (fun s i => ∃ j : Nat, i = .int .i64 (b * j) ∧ s = .int .i64 (wB b 0 k j) ∧ b * j ≤ 152) (fun _ i => 200 - (intOf i).toNat)
      case atStart => exact ⟨0, by simp, rfl, by simp⟩
      case round =>
        obtain ⟨j, rfl, rfl, hj⟩ := hrel
        have h1 : 0 ≤ b * (j : Int) := Int.mul_nonneg (by omega) (by omega)
        have HS : Hid (wB b 0 k (j + 1) = if b * j ≤ k then b * j else wB b 0 k j) := by unfold Hid; rw [wB]; simp
        have HJ : Hid (b * ((j + 1 : Nat) : Int) = b * j + b) := by unfold Hid; rw [show ((j + 1 : Nat) : Int) = (j : Int) + 1 from by omega, Int.mul_add, Int.mul_one]
        have HE := Lib.hid (HEND.out j)
        generalize b * (j : Int) = t at *
        by_cases hlt : t ≤ 140
        · by_cases hle : t ≤ k
          all_goals
            go_wp2
            go_round
            case rel => exact ⟨j + 1, by rw [HJ.out], by rw [HS.out]; first | rw [if_pos hle] | rw [if_neg (by omega)], by rw [HJ.out]; omega⟩
            case measure => simp [intOf]; omega
        · go_wp2
          go_ret
          exact ⟨ret_int (HE.out (by omega)), below_alloc _ _⟩
    · go_enter Try.func53, Try.ntmps53
      go_wp2
      go_loop [5, 6] (fun s i => ∃ j : Nat, i = .int .i64 (b * j) ∧ s = .int .i64 (wB b 1 k j) ∧ b * j ≤ 152) (fun _ i => 200 - (intOf i).toNat)
      case atStart => exact ⟨0, by simp, rfl, by simp⟩
      case round =>
        obtain ⟨j, rfl, rfl, hj⟩ := hrel
        have h1 : 0 ≤ b * (j : Int) := Int.mul_nonneg (by omega) (by omega)
        have hbd := wB_bd b 1 k g2 j
        have h2 : b * ((j : Int) - 1) = b * j - b := by rw [Int.mul_sub, Int.mul_one]
        rw [h2] at hbd
        have HS : Hid (wB b 1 k (j + 1) = if awy (b * j) k ≤ awy (wB b 1 k j) k then b * j else wB b 1 k j) := by unfold Hid; rw [wB]; simp
        have HJ : Hid (b * ((j + 1 : Nat) : Int) = b * j + b) := by unfold Hid; rw [show ((j + 1 : Nat) : Int) = (j : Int) + 1 from by omega, Int.mul_add, Int.mul_one]
        have HE := Lib.hid (HEND.out j)
        clear h2
        generalize b * (j : Int) = t at *
        generalize wB b 1 k j = best at *
        have hb0 : 0 ≤ best := hbd.1
        have hb1 : best ≤ 152 := by omega
        clear hbd
        by_cases hlt : t ≤ 140
        · by_cases hle : awy t k ≤ awy best k
          · go_wp2_with (go_at_call 86; refine (away_any _ _ _ (by omega) (by omega) (by omega) (by omega)).mono ?_; rintro _ _ ⟨rfl, rfl⟩)
            go_round
            case rel => exact ⟨j + 1, by rw [HJ.out], by rw [HS.out, if_pos hle], by rw [HJ.out]; omega⟩
            case measure => simp [intOf]; omega
          · have hle' : decide (awy t k ≤ awy best k) = false := by simpa using hle
            go_wp2_with (go_at_call 86; refine (away_any _ _ _ (by omega) (by omega) (by omega) (by omega)).mono ?_; rintro _ _ ⟨rfl, rfl⟩)
            go_round
            case rel => exact ⟨j + 1, by rw [HJ.out], by rw [HS.out, if_neg (by simpa using hle)], by rw [HJ.out]; omega⟩
            case measure => simp [intOf]; omega
        · go_wp2
          go_ret
          exact ⟨ret_int (HE.out (by omega)), below_alloc _ _⟩
end Go.Proofs.Ytagfcfojfjkmbaa
