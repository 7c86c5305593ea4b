/- Ends, the plain law: a table with another count. -/
import Derived.Test.YtjaoflfophcibaaHP
namespace Go.Proofs.Ytjaoflfophcibaa
open Go.RowKit Go.Shelf

/-- The table with another count. -/
def Tb.setC (t : Tb) (c g : Nat) (r : R2) : Tb := { t with ct := fun c' g' => if c' = c ∧ g' = g then r else t.ct c' g' }
theorem setC_ng (t : Tb) (c g : Nat) (r : R2) : (t.setC c g r).ng = t.ng := rfl
theorem setC_own (t : Tb) (c g : Nat) (r : R2) : (t.setC c g r).own (outC c g) = t.own (outC c g) := by
  funext c' g'
  unfold Tb.own
  by_cases h : outC c g c' g' = true
  · rw [if_pos h, if_pos h]
  · rw [if_neg h, if_neg h]
    have h2 : ¬ (c' = c ∧ g' = g) := fun e => h (by unfold outC; simp [e.1, e.2])
    show (if c' = c ∧ g' = g then r else t.ct c' g') = _
    rw [if_neg h2]
theorem setC_before (t : Tb) (c g : Nat) (r : R2) : ∀ c', (t.setC c g r).before (outC c g) c' = t.before (outC c g) c'
  | 0 => rfl
  | c' + 1 => by
    funext q
    show (t.setC c g r).arr c' q (fun g' => meetR ((t.setC c g r).before (outC c g) c' g') ((t.setC c g r).own (outC c g) c' g')) = t.arr c' q (fun g' => meetR (t.before (outC c g) c' g') (t.own (outC c g) c' g'))
    rw [setC_before t c g r c', setC_own]
    rfl
theorem setC_up (t : Tb) (c g : Nat) (r : R2) (c' : Nat) : (t.setC c g r).up (outC c g) c' = t.up (outC c g) c' := by
  funext q
  unfold Tb.up
  rw [setC_before, setC_own]
theorem setC_aft (t : Tb) (c g : Nat) (r : R2) : ∀ k c' g' s, (t.setC c g r).aft (outC c g) k c' g' s = t.aft (outC c g) k c' g' s
  | 0, _, _, _ => rfl
  | k + 1, c', g', s => by
    show (if emptyR s = true then s else trimR ((t.setC c g r).r (g' + 1)) (subR (t.setC c g r) g' ((t.setC c g r).nx g') ((t.setC c g r).up (outC c g) c') (minusR ((t.setC c g r).aft (outC c g) k (c' + 1) ((t.setC c g r).nx g') ((t.setC c g r).up (outC c g) (c' + 1) ((t.setC c g r).nx g'))) ((t.setC c g r).n ((t.setC c g r).nx g'))) (srcG (t.setC c g r) ((t.setC c g r).nx g')).length) s) = _
    rw [setC_up, setC_up, setC_aft t c g r k]
    rfl
theorem setC_agree (t : Tb) (c g : Nat) (r : R2) : (t.setC c g r).agree (outC c g) = t.agree (outC c g) := by
  unfold Tb.agree
  rw [setC_up]
  rfl
theorem setC_bnd (t : Tb) (c g : Nat) (r : R2) : bndR (t.setC c g r) (outC c g) c g = bndR t (outC c g) c g := by
  unfold bndR
  rw [setC_up, setC_aft]
  rfl
theorem setC_ct (t : Tb) (c g : Nat) (r : R2) : (t.setC c g r).ct c g = r := if_pos ⟨rfl, rfl⟩
theorem fault_setC {t : Tb} (hf : t.fault = 0) {c g : Nat} {r : R2} (hr : isCountR r = true) : (t.setC c g r).fault = 0 := by
  obtain ⟨h1, h2, h3, h4, h5, h6, h7, h8, h9, h10, h11⟩ := fault_facts hf
  have hrow : ∀ q, q < t.nc → (t.setC c g r).rowOk q = true := fun q hq => by
    unfold Tb.rowOk
    rw [setC_ng]
    have h := h8 q hq
    show (t.rl q == t.ng && allB (fun g' => isCountR (if q = c ∧ g' = g then r else t.ct q g')) (t.rl q)) = true
    rw [h.1]
    rw [allB_true (fun g' hg' => by
      by_cases e : q = c ∧ g' = g
      · rw [if_pos e]; exact hr
      · rw [if_neg e]; exact h.2 g' hg')]
    simp
  unfold Tb.fault
  rw [if_neg (by show ¬ (4 < t.nc ∨ 4 < t.ng); omega), if_pos]
  unfold Tb.okAll
  rw [setC_ng]
  show (decide (2 ≤ t.ng) && allB (t.setC c g r).rowOk t.nc && decide ((t.nb : Int) = t.nc - 1) && decide (t.nr = t.ng + 1) && decide (t.nn = t.ng) && allB (fun j => isCountR (t.b j)) t.nb && allB (fun j => isRateR (t.r j)) t.nr && allB (fun j => isNetR (t.n j)) t.nn) = true
  rw [allB_true hrow, allB_true h9, allB_true h10, allB_true h11, decide_eq_true h3, decide_eq_true (by omega : (t.nb : Int) = t.nc - 1), decide_eq_true h6, decide_eq_true h7]
  rfl
/-- A count that is replaced by one number: the counts agree if and only if the number lies in the bounds. -/
theorem ends_iff {t : Tb} (hf : t.fault = 0) (ha : t.agree off0 = true) {c g : Nat} (hc : c < t.nc) (hg : g < t.ng) {n : Int} (hn : (t.ct c g).1 ≤ n ∧ n ≤ (t.ct c g).2) :
    (t.setC c g (n, n)).fault = 0 ∧ ((t.setC c g (n, n)).agree off0 = true ↔ inR n (bndR t off0 c g)) ∧ bndR t off0 c g ≠ (1, 0) := by
  have ht := Okt.of_fault hf
  have hct := ht.ct c g hc hg
  have hf' : (t.setC c g (n, n)).fault = 0 := fault_setC hf (by unfold isCountR insideR; simp only [Bool.and_eq_true, decide_eq_true_eq]; omega)
  have ht' := Okt.of_fault hf'
  have hO : t.agree (outC c g) = true := by
    cases h : t.agree (outC c g)
    · rw [would_none ht hc hg h] at ha; cases ha
    · rfl
  have hO' : (t.setC c g (n, n)).agree (outC c g) = true := by rw [setC_agree]; exact hO
  have hle : max (bndR t (outC c g) c g).1 (t.ct c g).1 ≤ min (bndR t (outC c g) c g).2 (t.ct c g).2 := by
    refine Decidable.byContradiction fun h => ?_
    rw [would_off ht hc hg hO (by omega)] at ha
    cases ha
  have hb := (would_on ht hc hg hO hle).2
  have hon := would_on (t := t.setC c g (n, n)) ht' hc hg hO'
  have hoff := would_off (t := t.setC c g (n, n)) ht' hc hg hO'
  rw [setC_bnd, setC_ct] at hon hoff
  generalize bndR t (outC c g) c g = W at *
  refine ⟨hf', ?_, ?_⟩
  · rw [hb]
    unfold inR
    simp only
    constructor
    · intro h
      refine Decidable.byContradiction fun hno => ?_
      rw [hoff (by simp only; omega)] at h
      cases h
    · intro h
      exact (hon (by simp only; omega)).1
  · rw [hb]
    intro e
    have e1 := congrArg Prod.fst e
    have e2 := congrArg Prod.snd e
    simp only at e1 e2
    omega
end Go.Proofs.Ytjaoflfophcibaa
