/- Plain: two persons. -/
import Derived.Test.YtagfcfojfjkmbaaN3
import Derived.Test.YtagfcfojfjkmbaaK4
namespace Go.Proofs.Ytagfcfojfjkmbaa

theorem shared_has {p q : Pers} (hp : p.fault = 0) (hq : q.fault = 0) : sharedE p q = 0 ∧ Nrm (sharedL p q) ∧ ∀ n, hasR (sharedL p q) n = (hasR p.born n && hasR q.born n) := by
  obtain ⟨b1, _⟩ := born_has hp
  obtain ⟨c1, _⟩ := born_has hq
  refine ⟨by unfold sharedE; rw [if_pos hp, hq], ?_⟩
  unfold sharedL
  rw [if_pos ⟨hp, hq⟩]
  exact ⟨meetL_nrm b1 c1, fun n => meetL_has b1 c1 n⟩
theorem shared_comm {p q : Pers} (hp : p.fault = 0) (hq : q.fault = 0) : sharedL p q = sharedL q p := by
  obtain ⟨_, h1, h2⟩ := shared_has hp hq
  obtain ⟨_, k1, k2⟩ := shared_has hq hp
  exact Nrm.ext h1 k1 fun n => by rw [h2, k2, Bool.and_comm]
theorem shared_self {p : Pers} (hp : p.fault = 0) : sharedL p p = p.born := by
  obtain ⟨_, h1, h2⟩ := shared_has hp hp
  exact Nrm.ext h1 (born_has hp).1 fun n => by rw [h2, Bool.and_self]
/-- x has the records of both. -/
def Pers.BothOf (x p q : Pers) : Prop := x.lo = max p.lo q.lo ∧ x.hi = min p.hi q.hi ∧ x.nr = p.nr ∧ x.R = p.R ∧ x.nc = p.nc + q.nc ∧ (∀ j, j < p.nc → x.C j = p.C j) ∧ ∀ j, j < q.nc → x.C (p.nc + j) = q.C j
theorem both_born {x p q : Pers} (h : x.BothOf p q) (hR : q.R = p.R) (hp : p.fault = 0) (hq : q.fault = 0) (hx : x.fault = 0) : x.born = sharedL p q := by
  obtain ⟨_, s1, s2⟩ := shared_has hp hq
  obtain ⟨b1, b2⟩ := born_has hp
  obtain ⟨c1, c2⟩ := born_has hq
  obtain ⟨x1, x2⟩ := born_has hx
  obtain ⟨h1, h2, h3, h4, h5, h6, h7⟩ := h
  have e1 : ∀ j, j < p.nc → ∀ b, x.okB j b = p.okB j b := fun j hj b => by unfold Pers.okB Pers.rl; rw [h4, h6 j hj]
  have e2 : ∀ j, j < q.nc → ∀ b, x.okB (p.nc + j) b = q.okB j b := fun j hj b => by unfold Pers.okB Pers.rl; rw [h4, h7 j hj, hR]
  refine Nrm.ext x1 s1 fun n => ?_
  rw [s2, Bool.eq_iff_iff, Bool.and_eq_true, x2, b2, c2, h1, h2, h5]
  constructor
  · rintro ⟨a, b, c⟩
    exact ⟨⟨by omega, by omega, fun j hj => by rw [← e1 j hj]; exact c j (by omega)⟩, by omega, by omega, fun j hj => by rw [← e2 j hj]; exact c _ (by omega)⟩
  · rintro ⟨⟨a, b, c⟩, d, e, f⟩
    refine ⟨by omega, by omega, fun j hj => ?_⟩
    by_cases hlt : j < p.nc
    · rw [e1 j hlt]; exact c j hlt
    · obtain ⟨i, rfl⟩ : ∃ i, j = p.nc + i := ⟨j - p.nc, by omega⟩
      rw [e2 i (by omega)]; exact f i (by omega)
theorem insB_self {l : RL} (h : Nrm l) : insB l l = true := insB_of h h fun _ hn => hn
theorem togE_of {p q : Pers} (hp : p.fault = 0) (hq : q.fault = 0) : togE p q = if sharedL p q = [] then 9 else 0 := by
  unfold togE
  rw [(shared_has hp hq).1]
  simp
end Go.Proofs.Ytagfcfojfjkmbaa
