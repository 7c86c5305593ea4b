/- slices.Contains over ints; Age. -/
import Derived.Test.YtagfcfojfjkmbaaA6
namespace Go.Proofs.Ytagfcfojfjkmbaa
open Go.RowKit

/-- k is one of z 0 .. z (n - 1). -/
def inL (z : Nat → Int) (n : Nat) (k : Int) : Bool := (List.range n).any fun j => k == z j
def IdxIs (z : Nat → Int) (n : Nat) (k : Int) (w : World) (e : Ending) (w' : World) : Prop := ∃ r : Int, e = .returned (.int .i64 r) ∧ decide (0 ≤ r) = inL z n k ∧ w = w'
theorem inL_false {z : Nat → Int} {n : Nat} {k : Int} (h : ∀ q, q < n → (k == z q) = false) : inL z n k = false := by
  simp only [inL, List.any_eq_false, List.mem_range]; intro q hq; simp [h q hq]
theorem inL_true {z : Nat → Int} {n j : Nat} {k : Int} (hj : j < n) (h : (k == z j) = true) : inL z n k = true := by
  simp only [inL, List.any_eq_true, List.mem_range]; exact ⟨j, hj, h⟩

set_option maxHeartbeats 1000000 in
theorem index_nil (x : Int) (w : World) :
    Calls Try.prog 106 #[.slice none 0 0, .int .i64 x] w fun e w' => e = .returned (.int .i64 (-1)) ∧ w = w' := by
  go_enter Try.func106, Try.ntmps106
  go_wp2
  go_loop [8] (fun i => i = .int .i64 0) (fun _ => 0)
  case atStart => rfl
  case round =>
    obtain rfl := hrel
    go_wp2
    go_ret
    exact ⟨rfl, rfl⟩

set_option maxHeartbeats 1000000 in
theorem index_some (b off cap n : Nat) (z : Nat → Int) (x : Int) (w : World) (hlen : n ≤ 100000) (hz : ∀ j, j < n → w.cell? ⟨b, off + j, none⟩ = some (.int .i64 (z j))) :
    Calls Try.prog 106 #[.slice (some ⟨b, off, none⟩) n cap, .int .i64 x] w (IdxIs z n x w) := by
  have HZ := Lib.hid hz; clear hz
  go_enter Try.func106, Try.ntmps106
  go_wp2
  go_loop [8] (fun i => ∃ k : Nat, k ≤ n ∧ i = .int .i64 k ∧ ∀ q, q < k → (x == z q) = false) (fun i => n - (intOf i).toNat)
  case atStart => exact ⟨0, Nat.zero_le _, rfl, fun q h => absurd h (Nat.not_lt_zero _)⟩
  case round =>
    obtain ⟨k, hk, rfl, hall⟩ := hrel
    have HA := Lib.hid hall; clear hall
    by_cases hlt : k < n
    · have hcx := HZ.out k hlt
      cases hin : (x == z k)
      · go_wp2
        go_round
        case rel => exact ⟨k + 1, by omega, by go_num, fun q hq => by rcases Nat.lt_succ_iff_lt_or_eq.1 hq with h | rfl; exact HA.out q h; exact hin⟩
        case measure => simp [intOf]; omega
      · go_wp2
        go_ret
        exact ⟨_, rfl, by rw [inL_true hlt hin]; simp, rfl⟩
    · obtain rfl : k = n := by omega
      go_wp2
      go_ret
      exact ⟨_, rfl, by rw [inL_false HA.out]; rfl, rfl⟩

set_option maxHeartbeats 1000000 in
theorem contains_any (n : Nat) (sv : Value) (z : Nat → Int) (x : Int) (w : World) (hlen : n ≤ 100000) (hz : IntsAt w sv n z) :
    Calls Try.prog 95 #[sv, .int .i64 x] w fun e w' => e = .returned (.bool (inL z n x)) ∧ w = w' := by
  have hI : Calls Try.prog 106 #[sv, .int .i64 x] w (IdxIs z n x w) := by
    rcases hz with ⟨rfl, rfl⟩ | ⟨b, off, cap, rfl, _, hz⟩
    · refine (index_nil x w).mono ?_
      rintro e w' ⟨rfl, rfl⟩
      exact ⟨_, rfl, by simp [inL], rfl⟩
    · exact index_some b off cap n z x w hlen hz
  have HI := Lib.hid hI; clear hI hz
  go_enter Try.func95, Try.ntmps95
  go_wp2_with (go_at_call 106; refine HI.out.mono ?_; rintro e w' ⟨r, rfl, hr, rfl⟩; have HR := Lib.hid hr; clear hr)
  go_ret
  exact ⟨ret_bool HR.out, rfl⟩
end Go.Proofs.Ytagfcfojfjkmbaa
