/- The reference's sets: blocks of 3000 flags. -/
import Derived.Test.YtjaoflfophcibaaPK
namespace Go.Proofs.Ytjaoflfophcibaa
open Go.RowKit Go.Shelf

def stL (p : Nat → Bool) : List Value := (List.range 3000).map fun i => Value.bool (p i)
def stA (p : Nat → Bool) : Array Value := (stL p).toArray
theorem stA_size (p : Nat → Bool) : (stA p).size = 3000 := by simp [stA, stL]
theorem stA_zero : Try.zeroCells54 = stA fun _ => false := by kernel_rfl
theorem stA_get (p : Nat → Bool) (i : Nat) (h : i < 3000) : (stA p)[i]? = some (.bool (p i)) := by simp [stA, stL, h]
theorem stA_one (p : Nat → Bool) : (stA p).all (·.oneCell') = true := by
  rw [Array.all_eq_true]; intro i h; simp [stA, stL, Value.oneCell']
theorem stA_congr {f g : Nat → Bool} (h : ∀ i, i < 3000 → f i = g i) : stA f = stA g := by
  have e : ∀ n, (∀ i, i < n → f i = g i) → ((List.range n).map fun i => Value.bool (f i)) = (List.range n).map fun i => Value.bool (g i) := fun n hn => List.map_congr_left fun i hi => by rw [hn i (List.mem_range.1 hi)]
  exact congrArg List.toArray (e 3000 h)
theorem stA_set (p : Nat → Bool) (i : Nat) (b : Bool) : (stA p).setIfInBounds i (.bool b) = stA fun k => if k = i then b else p k := by
  apply Array.ext_getElem?
  intro j
  rw [Array.getElem?_setIfInBounds]
  by_cases hj : j < 3000
  · rw [stA_get _ _ hj]
    by_cases e : i = j
    · subst e; rw [if_pos rfl, if_pos (by rw [stA_size]; exact hj), stA_get _ _ hj, if_pos rfl]
    · rw [if_neg e, stA_get _ _ hj, if_neg (fun h => e h.symm)]
  · have h1 : (stA fun k => if k = i then b else p k).size ≤ j := by rw [stA_size]; omega
    have h2 : (stA p).size ≤ j := by rw [stA_size]; omega
    rw [Array.getElem?_eq_none h1]
    by_cases e : i = j
    · subst e; simp [stA_size, hj]
    · rw [if_neg e, Array.getElem?_eq_none h2]
theorem stA_info (p : Nat → Bool) : Option.map (fun x => x.size) (Try.prog.info? 54) = some (stA p).size := by rw [stA_size]; kernel_rfl
end Go.Proofs.Ytjaoflfophcibaa
