/- Link: the reference's graph, a row of bits for each old entry; Is. -/
import Derived.Test.YtgbdbikjckfgmaaGreatNF
import Derived.Laws.BitsAllLaws
namespace Go.Proofs.YtgbdbikjckfgmaaGreat
open Go.RowKit Go.Shelf

/-- The bits of the numbers below n that pass a test. -/
def rowN (p : Nat → Bool) : Nat → Nat
  | 0 => 0
  | k + 1 => if p k = true then rowN p k ||| 2 ^ k else rowN p k
theorem rowN_test (p : Nat → Bool) (k : Nat) : ∀ n, (rowN p n).testBit k = (decide (k < n) && p k)
  | 0 => by simp [rowN]
  | n + 1 => by
    have ih := rowN_test p k n
    rw [rowN]
    by_cases hp : p n = true
    · rw [if_pos hp, Nat.testBit_or, ih, Nat.testBit_two_pow]
      by_cases e : n = k
      · subst e; simp [hp]
      · have e2 : decide (k < n + 1) = decide (k < n) := by rw [decide_eq_decide]; omega
        rw [e2]; simp [e]
    · rw [if_neg hp, ih]
      by_cases e : k = n
      · subst e; simp [hp]
      · have e2 : decide (k < n + 1) = decide (k < n) := by rw [decide_eq_decide]; omega
        rw [e2]
theorem rowN_lt (p : Nat → Bool) : ∀ n, rowN p n < 2 ^ n
  | 0 => by simp [rowN]
  | n + 1 => by
    have ih := rowN_lt p n
    have h2 : 2 ^ n < 2 ^ (n + 1) := Nat.pow_lt_pow_right (by omega) (by omega)
    rw [rowN]
    split
    · exact Nat.or_lt_two_pow (by omega) h2
    · omega
theorem rowN_congr {p q : Nat → Bool} : ∀ {n : Nat}, (∀ k, k < n → p k = q k) → rowN p n = rowN q n
  | 0, _ => rfl
  | n + 1, h => by rw [rowN, rowN, rowN_congr (fun k hk => h k (by omega)), h n (by omega)]
theorem rowN_none {p : Nat → Bool} {n : Nat} (h : ∀ k, k < n → p k = false) : rowN p n = 0 := by
  rw [rowN_congr (q := fun _ => false) h]
  induction n with
  | zero => rfl
  | succ n ih => rw [rowN, if_neg (by simp)]; exact ih fun k hk => h k (by omega)
theorem rowN_ext {p : Nat → Bool} {n m : Nat} (hnm : n ≤ m) (h : ∀ k, n ≤ k → p k = false) : rowN p m = rowN p n := by
  induction m with
  | zero => obtain rfl : n = 0 := by omega
            rfl
  | succ m ih =>
    by_cases e : n = m + 1
    · rw [e]
    · rw [rowN, if_neg (by rw [h m (by omega)]; simp)]; exact ih (by omega)
def gI (G : Nat → Nat → Bool) (i : Nat) : Int := ((rowN (G i) 8 : Nat) : Int)
theorem i64_ofInt (a : Nat) (h : a < 256) : (BitVec.ofInt 64 (a : Int)).toNat = a := by
  rw [BitVec.ofInt_natCast, BitVec.toNat_ofNat]; omega
theorem i64_or_nat (a b : Nat) (ha : a < 256) (hb : b < 256) : bits .or .i64 (a : Int) (b : Int) = ((a ||| b : Nat) : Int) := by
  have hx : a ||| b < 2 ^ 8 := Nat.or_lt_two_pow (by omega) (by omega)
  show IntKind.i64.wrap ((BitVec.ofInt 64 (a : Int) ||| BitVec.ofInt 64 (b : Int)).toNat : Int) = _
  rw [BitVec.toNat_or, i64_ofInt a ha, i64_ofInt b hb]
  exact IntWalk.i64_in _ (by omega)
theorem i64_and_nat (a b : Nat) (ha : a < 256) (hb : b < 256) : bits .and .i64 (a : Int) (b : Int) = ((a &&& b : Nat) : Int) := by
  have hx : a &&& b < 2 ^ 8 := Nat.and_lt_two_pow _ (by omega)
  show IntKind.i64.wrap ((BitVec.ofInt 64 (a : Int) &&& BitVec.ofInt 64 (b : Int)).toNat : Int) = _
  rw [BitVec.toNat_and, i64_ofInt a ha, i64_ofInt b hb]
  exact IntWalk.i64_in _ (by omega)
theorem isB {G : Nat → Nat → Bool} {i k : Nat} (hk : k < 8) : (gI G i / 2 ^ k % 2 == 1) = G i k := by
  have h := rowN_test (G i) k 8
  rw [decide_eq_true hk, Bool.true_and, Nat.testBit_eq_decide_div_mod_eq] at h
  rw [← h]
  unfold gI
  apply Bool.eq_iff_iff.2
  simp
  norm_cast
set_option maxHeartbeats 2000000 in
theorem is_any (G : Nat → Nat → Bool) (i k : Nat) (w : World) (hi : i < 8) (hk : k < 8) :
    Calls Tryz.prog 25 #[.agg (a8 (gI G)), .int .i64 (i : Int), .int .i64 (k : Int)] w fun e w' => e = .returned (.bool (G i k)) ∧ Below w.heap.size w w' := by
  have HG := Lib.hid (isB (G := G) (i := i) hk)
  have HB := Lib.hid ((BF.base w).alloc (a8 (gI G)) 40)
  have e0 : (w.alloc (.cells (a8 (gI G)) 40)).cell? ⟨w.heap.size, i, none⟩ = some (.int .i64 (gI G i)) := (HB.out.cell (.head _) i).trans (a8_get _ hi)
  have hlo : 0 ≤ gI G i := by unfold gI; omega
  have hhi : gI G i < 256 := by have := rowN_lt (G i) 8; unfold gI; omega
  generalize gI G i = r at *
  generalize G i k = b at *
  generalize a8 (gI G) = cs at *
  have ki : (0 : Int) ≤ (i : Int) := by omega
  have kj : (i : Int) < 8 := by omega
  go_enter Tryz.func25, Tryz.ntmps25
  go_wp2_with fail
  go_ret
  have h0 : 0 ≤ r / 2 ^ k := Int.ediv_nonneg hlo (Int.le_of_lt (Int.pow_pos (by decide)))
  exact ⟨ret_bool (by rw [Int.tmod_eq_emod_of_nonneg h0, HG.out]), HB.out.fr⟩
end Go.Proofs.YtgbdbikjckfgmaaGreat
