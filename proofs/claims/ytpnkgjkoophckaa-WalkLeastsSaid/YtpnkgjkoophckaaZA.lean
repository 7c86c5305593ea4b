/- Walk: facts for the reference's Least and Fewest. By hand. -/
import Derived.Test.YtpnkgjkoophckaaVZ
namespace Go.Proofs.Ytpnkgjkoophckaa
open Go.RowKit Go.Shelf

theorem bit_and64 (a b : Nat) (ha : a < 256) (hb : b < 256) : bits BinOp.and IntKind.i64 (a : Int) (b : Int) = ((a &&& b : Nat) : Int) := by
  have h : a &&& b < 256 := Nat.lt_of_le_of_lt Nat.and_le_left ha
  show IntKind.i64.wrap (((BitVec.ofInt 64 (a : Int) &&& BitVec.ofInt 64 (b : Int)).toNat : Nat) : Int) = _
  rw [BitVec.toNat_and, BitVec.ofInt_natCast, BitVec.ofInt_natCast, BitVec.toNat_ofNat, BitVec.toNat_ofNat, Nat.mod_eq_of_lt (by omega), Nat.mod_eq_of_lt (by omega)]
  exact IntWalk.i64_in _ (by omega)
theorem bit_low : ∀ s : Fin 256, 0 < (s : Nat) → bits BinOp.and IntKind.i64 ((s : Nat) : Int) (-((s : Nat) : Int)) = ((2 ^ lowb s : Nat) : Int) := by decide +kernel
theorem lowb_8 : ∀ s : Fin 256, lowb s < 8 := by decide +kernel
theorem low_bit (p l : Nat) : (p &&& 2 ^ l = 0) ↔ p.testBit l = false := by
  constructor
  · intro h
    have h2 : (p &&& 2 ^ l).testBit l = false := by rw [h]; simp
    rw [Nat.testBit_and, Nat.testBit_two_pow_self, Bool.and_true] at h2
    exact h2
  · intro h
    refine Nat.eq_of_testBit_eq fun i => ?_
    rw [Nat.testBit_and, Nat.testBit_two_pow]
    by_cases e : l = i
    · subst e; simp [h]
    · simp [e]
/-- A load of 256 times in a drawn region. -/
def t256L (F : Nat → Int) : List Value := (List.range 256).map fun j => .int .i64 (F j)
theorem ld_tours {ops : Array Oper} {S : World → Prop} {op : Oper} {a : Act} (F : Nat → Int) (hw : Region.wanted op (yielded ops a.tmps) = true) (x : Operand) (ho : op.op = .load 58 x) (b : Nat) (hx : a.eval x = .pointer (some ⟨b, 0, none⟩)) (hS : ∀ w, S w → w.rangeAt b 0 (t256L F)) : YieldsIf Try.prog ops S op (.agg (t256 F)) a :=
  yieldsIf_load_mid hw 58 x ho b 0 hx (t256L F) _ hS Try.underlying58 rfl (by rw [show (t256L F).length = 256 by simp [t256L]]; kernel_rfl)
/-- The best of the first parts. -/
def lsB (F : Nat → Int) (k s j : Nat) : Int := ((List.range j).map (· + 1)).foldl (lsStep F s (lsF F k)) 1048576
theorem lsB_zero (F : Nat → Int) (k s : Nat) : lsB F k s 0 = 1048576 := rfl
theorem lsB_succ (F : Nat → Int) (k s j : Nat) : lsB F k s (j + 1) = if (j + 1) &&& s = j + 1 ∧ (j + 1).testBit (lowb s) = true then min (lsB F k s j) (max (F (j + 1)) (lsF F k (s - (j + 1)))) else lsB F k s j := by
  unfold lsB
  rw [List.range_succ, List.map_append, List.foldl_append]
  rfl
theorem lsB_end (F : Nat → Int) (k : Nat) {s : Nat} (h0 : s ≠ 0) : lsB F k s s = lsF F (k + 1) s := by
  show _ = if s = 0 then 0 else _
  rw [if_neg h0]
  rfl
theorem lsF_zero (F : Nat → Int) (k : Nat) : lsF F k 0 = 0 := by cases k <;> rfl
theorem lsF_none (F : Nat → Int) {s : Nat} (h0 : s ≠ 0) : lsF F 0 s = 1048576 := if_neg h0
end Go.Proofs.Ytpnkgjkoophckaa
