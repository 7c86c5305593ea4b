/- The ends of a trimmed range. -/
import Derived.Test.YtjaoflfophcibaaPL
namespace Go.Proofs.Ytjaoflfophcibaa
open Go.RowKit Go.Shelf

theorem loEnd_le {hi : Int} {P : Int → Bool} {n : Int} (hp : P n = false) : ∀ f lo, lo ≤ n → loEnd hi P f lo ≤ n
  | 0, lo, h => h
  | f + 1, lo, h => by
    unfold loEnd
    split
    · rename_i hc
      simp only [Bool.and_eq_true, decide_eq_true_eq] at hc
      have hne : lo ≠ n := fun e => by rw [e, hp] at hc; exact absurd hc.2 (by decide)
      exact loEnd_le hp f (lo + 1) (by omega)
    · exact h
theorem hiEnd_ge {lo : Int} {P : Int → Bool} {n : Int} (hp : P n = false) : ∀ f hi, n ≤ hi → n ≤ hiEnd lo P f hi
  | 0, hi, h => h
  | f + 1, hi, h => by
    unfold hiEnd
    split
    · rename_i hc
      simp only [Bool.and_eq_true, decide_eq_true_eq] at hc
      have hne : hi ≠ n := fun e => by rw [e, hp] at hc; exact absurd hc.2 (by decide)
      exact hiEnd_ge hp f (hi - 1) (by omega)
    · exact h
end Go.Proofs.Ytjaoflfophcibaa
