/- Plain: all days later by the same number. -/
import Derived.Test.YtagfcfojfjkmbaaN3
namespace Go.Proofs.Ytagfcfojfjkmbaa

def Rc.later (n : Int) (r : Rc) : Rc := ⟨r.day + n, r.rule, r.num⟩
/-- x is p, later by n days. -/
def Pers.LaterOf (x p : Pers) (n : Int) : Prop := x.lo = p.lo + n ∧ x.hi = p.hi + n ∧ x.nr = p.nr ∧ x.R = p.R ∧ x.nc = p.nc ∧ ∀ j, j < p.nc → x.C j = (p.C j).later n
def shiftL (n : Int) (l : RL) : RL := l.map fun r => (r.1 + n, r.2 + n)
theorem shiftL_has (n : Int) (l : RL) (m : Int) : hasR (shiftL n l) m = hasR l (m - n) := by
  induction l with
  | nil => rfl
  | cons x l ih =>
    show hasR ((x.1 + n, x.2 + n) :: shiftL n l) m = _
    rw [hasR_cons, hasR_cons, ih]
    congr 1
    rw [Bool.eq_iff_iff]
    simp only [Bool.and_eq_true, decide_eq_true_eq]
    omega
theorem shiftL_nrm {n : Int} {l : RL} (h : Nrm l) : Nrm (shiftL n l) := by
  refine ⟨List.pairwise_map.2 (h.1.imp fun h => ?_), fun r hr => ?_⟩
  · show _ + n + 2 ≤ _ + n
    omega
  · obtain ⟨s, hs, rfl⟩ := List.mem_map.1 hr
    have := h.2 s hs
    show s.1 + n ≤ s.2 + n
    omega
theorem LaterOf.okB {x p : Pers} {n : Int} (h : x.LaterOf p n) {j : Nat} (hj : j < p.nc) (b : Int) : x.okB j b = p.okB j (b - n) := by
  obtain ⟨_, _, _, h4, _, h6⟩ := h
  unfold Pers.okB Pers.rl
  rw [h4, h6 j hj]
  show (decide (b ≤ (p.C j).day + n) && decide (((p.C j).day + n - b) / 365 ≤ 120) && agesF _ _ _ _ _ 126 (((p.C j).day + n - b) / 365).toNat) = _
  rw [show (p.C j).day + n - b = (p.C j).day - (b - n) from by omega, show decide (b ≤ (p.C j).day + n) = decide (b - n ≤ (p.C j).day) from by rw [Bool.eq_iff_iff]; simp only [decide_eq_true_eq]; omega]
  rfl
theorem later_born {x p : Pers} {n : Int} (h : x.LaterOf p n) (hp : p.fault = 0) (hx : x.fault = 0) : x.born = shiftL n p.born := by
  obtain ⟨b1, b2⟩ := born_has hp
  obtain ⟨c1, c2⟩ := born_has hx
  refine Nrm.ext c1 (shiftL_nrm b1) fun m => ?_
  rw [shiftL_has, Bool.eq_iff_iff, c2, b2, h.1, h.2.1, h.2.2.2.2.1]
  constructor
  · rintro ⟨h1, h2, h3⟩
    exact ⟨by omega, by omega, fun j hj => by rw [← LaterOf.okB h hj]; exact h3 j hj⟩
  · rintro ⟨h1, h2, h3⟩
    exact ⟨by omega, by omega, fun j hj => by rw [LaterOf.okB h hj]; exact h3 j hj⟩
end Go.Proofs.Ytagfcfojfjkmbaa
