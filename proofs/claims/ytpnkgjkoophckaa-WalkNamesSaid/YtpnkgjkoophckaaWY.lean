/- Walk: divisions, plain; Clone of a list of sets. -/
import Derived.Test.YtpnkgjkoophckaaWX
namespace Go.Proofs.Ytpnkgjkoophckaa
open Go.RowKit Go.Shelf Go.Maps

theorem bit_down : ∀ s p : Fin 256, 0 < (p : Nat) → bits BinOp.and IntKind.i64 (((p : Nat) : Int) - 1) ((s : Nat) : Int) = ((((p : Nat) - 1) &&& (s : Nat) : Nat) : Int) := by decide +kernel
theorem bit_rest : ∀ s p : Fin 256, (p : Nat) &&& (s : Nat) = (p : Nat) → bits BinOp.andNot IntKind.i64 ((s : Nat) : Int) ((p : Nat) : Int) = (((s : Nat) - (p : Nat) : Nat) : Int) := by decide +kernel
theorem plc_part : ∀ s p : Fin 256, (p : Nat) &&& (s : Nat) = (p : Nat) → 0 < (p : Nat) → (plc ((s : Nat) - (p : Nat))).length < (plc s).length := by decide +kernel
/-- The parts of a set, the greatest one first. -/
def subsF : Nat → Nat → Nat → List Nat
  | 0, _, _ => []
  | k + 1, s, p => if p = 0 then [] else p :: subsF k s ((p - 1) &&& s)
def subs (s : Nat) : List Nat := subsF s s s
theorem subs_len : ∀ s : Fin 256, (subs s).length ≤ 2 ^ (plc s).length - 1 := by decide +kernel
theorem subsF_mem : ∀ (k s p q : Nat), p &&& s = p → q ∈ subsF k s p → q &&& s = q ∧ 0 < q
  | 0, _, _, _, _, h => by simp [subsF] at h
  | k + 1, s, p, q, hp, h => by
    simp only [subsF] at h
    split at h
    · cases h
    · rename_i h0
      rcases List.mem_cons.1 h with rfl | h
      · exact ⟨hp, by omega⟩
      · exact subsF_mem k s _ q (by rw [Nat.and_assoc, Nat.and_self]) h
theorem sub_le {s q : Nat} (h : q &&& s = q) : q ≤ s := by rw [← h]; exact Nat.and_le_right
/-- The least bit of a set is not in a part. -/
def noF (s p : Nat) : Bool := bits BinOp.and IntKind.i64 (p : Int) (bits BinOp.and IntKind.i64 (s : Int) (IntKind.i64.wrap (-(s : Int)))) == 0
/-- One part is tried. -/
def dvStep (ok : Nat → Bool) (s : Nat) (rec : Nat → List Nat) (b : List Nat) (p : Nat) : List Nat :=
  if noF s p = true ∨ ok p = false then b else if s ≠ p ∧ rec (s - p) = [] then b else if b = [] ∨ (rec (s - p)).length + 1 < b.length then rec (s - p) ++ [p] else b
def dvF (ok : Nat → Bool) : Nat → Nat → List Nat
  | 0, _ => []
  | k + 1, s => (subs s).foldl (dvStep ok s (dvF ok k)) []
/-- The best division of a set; none: the empty list. -/
def dv (ok : Nat → Bool) (s : Nat) : List Nat := dvF ok s s
theorem dvStep_congr {ok : Nat → Bool} {s : Nat} {r r' : Nat → List Nat} {L : List Nat} (h : ∀ p, p ∈ L → r (s - p) = r' (s - p)) : ∀ b, L.foldl (dvStep ok s r) b = L.foldl (dvStep ok s r') b := by
  induction L with
  | nil => intro b; rfl
  | cons p L ih =>
    intro b
    simp only [List.foldl_cons]
    rw [ih (fun q hq => h q (.tail _ hq))]
    unfold dvStep
    rw [h p (.head _)]
theorem dvF_eq (ok : Nat → Bool) : ∀ (k s : Nat), s ≤ k → dvF ok k s = dvF ok s s
  | 0, s, h => by obtain rfl : s = 0 := by omega
                  rfl
  | k + 1, s, h => by
    cases s with
    | zero => rfl
    | succ s =>
      simp only [dvF]
      refine dvStep_congr (fun p hp => ?_) _
      have hm := subsF_mem _ _ _ p (Nat.and_self _) hp
      rw [dvF_eq ok k _ (by omega), dvF_eq ok s _ (by omega)]
theorem dv_eq (ok : Nat → Bool) (s : Nat) : dv ok s = (subs s).foldl (dvStep ok s (dv ok)) [] := by
  unfold dv
  cases s with
  | zero => rfl
  | succ s =>
    simp only [dvF]
    refine dvStep_congr (fun p hp => ?_) _
    have hm := subsF_mem _ _ _ p (Nat.and_self _) hp
    rw [dvF_eq ok s _ (by omega)]
end Go.Proofs.Ytpnkgjkoophckaa
