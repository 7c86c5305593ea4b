/- Contracts: smallest, modes, write, valid. -/
import Derived.Test.YtagfcfojfjkmbaaA1
import Derived.LoopTactic
import Derived.Outline
import Derived.Deep.RegionWith
namespace Go.Proofs.Ytagfcfojfjkmbaa
open Go.RowKit

theorem ret_int {k : IntKind} {a b : Int} (h : a = b) : Ending.returned (.int k a) = .returned (.int k b) := by rw [h]
theorem ret_bool {a b : Bool} (h : a = b) : Ending.returned (.bool a) = .returned (.bool b) := by rw [h]

theorem bcell {W w1 : World} (hb : Below W.heap.size W w1) : (∀ b o, b < W.heap.size → w1.cell? ⟨b, o, none⟩ = W.cell? ⟨b, o, none⟩) ∧ (∀ b o, b < W.heap.size → w1.frozen? ⟨b, o, none⟩ = W.frozen? ⟨b, o, none⟩) :=
  ⟨fun b o h => hb.cell (p := ⟨b, o, none⟩) h, fun b o h => hb.frozen (p := ⟨b, o, none⟩) h⟩

set_option maxHeartbeats 400000 in
theorem min2_any (b : Nat) (x y : Int) (w : World) (h0 : w.cell? ⟨b, 0, none⟩ = some (.int .i64 x)) (h1 : w.cell? ⟨b, 1, none⟩ = some (.int .i64 y)) :
    Calls Try.prog 93 #[.slice (some ⟨b, 0, none⟩) 2 2] w fun e w' => e = .returned (.int .i64 (min x y)) ∧ w = w' := by
  go_enter Try.func93, Try.ntmps93
  go_wp2
  go_loop [3, 4] (fun n i => (n = .int .i64 x ∧ i = .int .i64 1) ∨ (n = .int .i64 (min x y) ∧ i = .int .i64 2)) (fun _ i => 2 - (intOf i).toNat)
  case atStart => exact .inl ⟨rfl, rfl⟩
  case round =>
    rcases hrel with ⟨rfl, rfl⟩ | ⟨rfl, rfl⟩
    · go_wp2
      go_round
      case rel => exact .inr ⟨by congr 1; omega, rfl⟩
      case measure => simp [intOf]
    · go_wp2
      go_ret
      exact ⟨rfl, rfl⟩

set_option maxHeartbeats 400000 in
theorem smallest_any (b : Nat) (x y : Int) (w : World) (h0 : w.cell? ⟨b, 0, none⟩ = some (.int .i64 x)) (h1 : w.cell? ⟨b, 1, none⟩ = some (.int .i64 y)) :
    Calls Try.prog 69 #[.slice (some ⟨b, 0, none⟩) 2 2] w fun e w' => e = .returned (.int .i64 (min x y)) ∧ w = w' := by
  go_enter Try.func69, Try.ntmps69
  go_wp2_with (go_at_call 93; refine (min2_any _ x y _ h0 h1).mono ?_; rintro e w' ⟨rfl, rfl⟩)
  go_ret
  exact ⟨rfl, rfl⟩

set_option maxHeartbeats 400000 in
theorem modes_any (w : World) :
    Calls Try.prog 103 #[] w fun e w' => e = .returned (.slice (some ⟨w.heap.size, 0, none⟩) 2 2) ∧ w' = w.alloc (.cells #[.func (.func 109) #[] #[], .func (.func 110) #[] #[]] 156) := by
  go_enter Try.func103, Try.ntmps103
  go_wp2
  go_ret
  exact ⟨rfl, rfl⟩

def wrt (f b m k : Int) : Int := if k < f then k else if m = 0 then k - k % b else k + b / 2 - (k + b / 2) % b

theorem wrt_bd (f b m k : Int) (hb : 1 ≤ b) (hb2 : b ≤ 12) (hk : 0 ≤ k) (hk2 : k ≤ 800) : 0 ≤ wrt f b m k ∧ wrt f b m k ≤ k + 6 := by
  have h1 := Int.emod_nonneg k (by omega : b ≠ 0)
  have h2 := Int.emod_nonneg (k + b / 2) (by omega : b ≠ 0)
  have h3 := Int.mul_ediv_add_emod k b
  have h4 := Int.mul_ediv_add_emod (k + b / 2) b
  have h5 : 0 ≤ b * (k / b) := Int.mul_nonneg (by omega) (Int.ediv_nonneg hk (by omega))
  have h6 : 0 ≤ b * ((k + b / 2) / b) := Int.mul_nonneg (by omega) (Int.ediv_nonneg (by omega) (by omega))
  unfold wrt
  split
  · omega
  · split <;> omega

set_option maxHeartbeats 400000 in
theorem write_lo (f b m e k : Int) (w : World) (h : k < f) :
    Calls Try.prog 82 #[ruleV f b m e, .int .i64 k] w fun r w' => r = .returned (.int .i64 k) ∧ Below w.heap.size w w' := by
  unfold ruleV
  go_enter Try.func82, Try.ntmps82
  go_wp2
  go_ret
  exact ⟨rfl, (Below.refl _ _).alloc (Nat.le_refl _) _⟩

attribute [local go_sem ↓] Go.wp_at_zero Go.wp_at_succ
set_option maxHeartbeats 1000000 in
theorem write_hi0 (f b e k : Int) (w : World) (h : f ≤ k) (hb : 1 ≤ b) (hb2 : b ≤ 12) (hk : 0 ≤ k) (hk2 : k ≤ 800) :
    Calls Try.prog 82 #[ruleV f b 0 e, .int .i64 k] w fun r w' => r = .returned (.int .i64 (wrt f b 0 k)) ∧ Below w.heap.size w w' := by
  have hd : ∀ W, Calls Try.prog 109 #[.agg #[.int .i64 f, .int .i64 b, .int .i64 0, .int .i64 e], .int .i64 k] W fun r w' => r = .returned (.int .i64 (k - k % b)) ∧ Below W.heap.size W w' := fun W => down_any f b 0 e k W hb hb2 hk (by omega)
  have HD := Lib.hid hd; clear hd
  have hv : wrt f b 0 k = k - k % b := by unfold wrt; rw [if_neg (by omega), if_pos rfl]
  have HV := Lib.hid hv; clear hv
  unfold ruleV
  go_enter Try.func82, Try.ntmps82
  go_wp2
  go_region_with (first | (go_at_call 103; refine (modes_any _).mono ?_; rintro e w' ⟨rfl, rfl⟩) | (go_at_call 109; refine (HD.out _).mono ?_; rintro e w' ⟨rfl, hb⟩))
  all_goals (go_wp2; go_ret; exact ⟨(show Ending.returned (.int .i64 _) = _ from by rw [HV.out]), (((Below.refl _ _).alloc (Nat.le_refl _) _).alloc (by simp) _).drew.trans (hb.mono (by simp; omega))⟩)

set_option maxHeartbeats 1000000 in
theorem write_hi1 (f b e k : Int) (w : World) (h : f ≤ k) (hb : 1 ≤ b) (hb2 : b ≤ 12) (hk : 0 ≤ k) (hk2 : k ≤ 800) :
    Calls Try.prog 82 #[ruleV f b 1 e, .int .i64 k] w fun r w' => r = .returned (.int .i64 (wrt f b 1 k)) ∧ Below w.heap.size w w' := by
  have hd : ∀ W, Calls Try.prog 110 #[.agg #[.int .i64 f, .int .i64 b, .int .i64 1, .int .i64 e], .int .i64 k] W fun r w' => r = .returned (.int .i64 (k + b / 2 - (k + b / 2) % b)) ∧ Below W.heap.size W w' := fun W => near_any f b 1 e k W hb hb2 hk (by omega)
  have HD := Lib.hid hd; clear hd
  have hv : wrt f b 1 k = k + b / 2 - (k + b / 2) % b := by unfold wrt; rw [if_neg (by omega), if_neg (by decide)]
  have HV := Lib.hid hv; clear hv
  unfold ruleV
  go_enter Try.func82, Try.ntmps82
  go_wp2
  go_region_with (first | (go_at_call 103; refine (modes_any _).mono ?_; rintro e w' ⟨rfl, rfl⟩) | (go_at_call 110; refine (HD.out _).mono ?_; rintro e w' ⟨rfl, hb⟩))
  all_goals (go_wp2; go_ret; exact ⟨(show Ending.returned (.int .i64 _) = _ from by rw [HV.out]), (((Below.refl _ _).alloc (Nat.le_refl _) _).alloc (by simp) _).drew.trans (hb.mono (by simp; omega))⟩)

theorem write_any (f b m e k : Int) (w : World) (hb : 1 ≤ b) (hb2 : b ≤ 12) (hm : 0 ≤ m) (hm1 : m ≤ 1) (hk : 0 ≤ k) (hk2 : k ≤ 800) :
    Calls Try.prog 82 #[ruleV f b m e, .int .i64 k] w fun r w' => r = .returned (.int .i64 (wrt f b m k)) ∧ Below w.heap.size w w' := by
  by_cases h : k < f
  · refine (write_lo f b m e k w h).mono ?_
    rintro r w' ⟨rfl, hb⟩
    exact ⟨by unfold wrt; rw [if_pos h], hb⟩
  · have : m = 0 ∨ m = 1 := by omega
    rcases this with rfl | rfl
    · exact write_hi0 f b e k w (by omega) hb hb2 hk hk2
    · exact write_hi1 f b e k w (by omega) hb hb2 hk hk2

end Go.Proofs.Ytagfcfojfjkmbaa
