/- The reference's sets are ranges: the plain law. -/
import Derived.Test.YtjaoflfophcibaaKF
import Derived.Test.YtjaoflfophcibaaKG
import Derived.Test.YtjaoflfophcibaaHN
namespace Go.Proofs.Ytjaoflfophcibaa
open Go.RowKit Go.Shelf

/-- A set has the numbers of a range. -/
def IvS (q : Nat → Bool) (r : R2) : Prop := ∀ i, i < 3000 → (q i = true ↔ inR (i : Int) r)
theorem IvS.fill (lo hi : Int) : IvS (fillP lo hi) (lo, hi) := fun i _ => by
  unfold fillP inR
  rw [decide_eq_true_eq]
theorem IvS.both {p q : Nat → Bool} {a b : R2} (h : IvS p a) (k : IvS q b) : IvS (fun m => p m && q m) (meetR a b) := fun i hi => by
  rw [inR_meet, Bool.and_eq_true, h i hi, k i hi]
theorem IvS.cut {q : Nat → Bool} {r : R2} (h : IvS q r) : IvS q (meetR r (0, 1048576)) := fun i hi => by
  rw [h i hi, inR_meet]
  exact ⟨fun h => ⟨h, by show (0 : Int) ≤ i; omega, by show (i : Int) ≤ 1048576; omega⟩, fun h => h.1⟩
theorem IvS.none {q : Nat → Bool} {r : R2} (h : ∀ i, i < 3000 → q i = false) (he : emptyR r = true) : IvS q r := fun i hi => by
  rw [h i hi]
  unfold emptyR at he
  have he := of_decide_eq_true he
  unfold inR
  constructor
  · intro h; cases h
  · intro h; omega
theorem IvS.empty {q : Nat → Bool} {r : R2} (h : IvS q r) (he : emptyR r = true) : ∀ i, i < 3000 → q i = false := fun i hi => by
  cases e : q i
  · rfl
  · have h1 := (h i hi).1 e
    have he := of_decide_eq_true he
    unfold inR at h1
    omega
/-- What ranges lie in. -/
structure InB (r : R2) : Prop where
  lo : 0 ≤ r.1
  ne : r.1 ≤ r.2
  hi : r.2 ≤ 2999
theorem IvS.living {p q : Nat → Bool} {A r : R2} (hp : IvS p A) (hA : InB A) (r1 : 0 ≤ r.1) (r2 : r.1 ≤ r.2) (r3 : r.2 ≤ 1000) (hq : ∀ i, i < 3000 → (q i = true ↔ LivP p r 3000 i)) : IvS q (livingR r A) := fun i hi => by
  have h0 := hA.lo; have h1 := hA.ne; have h2 := hA.hi
  rw [hq i hi]
  constructor
  · rintro ⟨a, ha, hpa, hia, hd1, hd2⟩
    have h3 := (hp a ha).1 hpa
    have e1 := few_mono (r := r) r3 h3.1
    have e2 := most_mono (r := r) (by omega) h3.2
    unfold fewestR at e1
    unfold mostR at e2
    unfold inR livingR fewestR mostR
    simp only
    omega
  · intro h
    obtain ⟨n, n1, n2, n3, n4⟩ := cont (r := r) (K1 := 0) (K2 := 0) (m := (i : Int)) r2 (by omega) (Int.le_refl _) (A.2 - A.1).toNat A.1 A.2 h0 (by omega) (by have := h.1; unfold livingR at this; simp only at this; omega) (by have := h.2; unfold livingR at this; simp only at this; omega)
    obtain ⟨a, rfl⟩ := Int.eq_ofNat_of_zero_le (show 0 ≤ n by omega)
    have hd := deadR_le (r := r) (n := (a : Int)) r1 r2 r3 (by omega)
    unfold fewestR at n3
    unfold mostR at n4
    exact ⟨a, by omega, (hp a (by omega)).2 ⟨n1, n2⟩, by omega, by omega, by omega⟩
theorem liv_none {p q : Nat → Bool} {r : R2} (hp : ∀ i, i < 3000 → p i = false) (hq : ∀ i, i < 3000 → (q i = true ↔ LivP p r 3000 i)) : ∀ i, i < 3000 → q i = false := fun i hi => by
  cases e : q i
  · rfl
  · obtain ⟨a, ha, hpa, _⟩ := (hq i hi).1 e
    rw [hp a ha] at hpa
    cases hpa
theorem IvS.moved {p q : Nat → Bool} {A : R2} {lo hi : Int} (hp : IvS p A) (hA : InB A) (hl : lo ≤ hi) (hq : ∀ i, i < 3000 → (q i = true ↔ MovP p lo hi 3000 i)) : IvS q (plusR A (lo, hi)) := fun i hi' => by
  have h0 := hA.lo; have h1 := hA.ne; have h2 := hA.hi
  rw [hq i hi']
  unfold plusR inR
  simp only
  constructor
  · rintro ⟨a, ha, hpa, hd1, hd2⟩
    have h3 := (hp a ha).1 hpa
    unfold inR at h3
    omega
  · intro h
    obtain ⟨a, ha⟩ := Int.eq_ofNat_of_zero_le (show 0 ≤ max A.1 ((i : Int) - hi) by omega)
    exact ⟨a, by omega, (hp a (by omega)).2 (by unfold inR; omega), by omega, by omega⟩
theorem mov_none {p q : Nat → Bool} {lo hi : Int} (hp : ∀ i, i < 3000 → p i = false) (hq : ∀ i, i < 3000 → (q i = true ↔ MovP p lo hi 3000 i)) : ∀ i, i < 3000 → q i = false := fun i hi => by
  cases e : q i
  · rfl
  · obtain ⟨a, ha, hpa, _⟩ := (hq i hi).1 e
    rw [hp a ha] at hpa
    cases hpa
theorem IvS.add {p q s : Nat → Bool} {A B : R2} (hp : IvS p A) (hq : IvS q B) (hA : InB A) (hB : InB B) (hs : ∀ i, i < 3000 → (s i = true ↔ SumP p q 1 3000 i)) : IvS s (plusR A B) := fun i hi => by
  have h0 := hA.lo; have h1 := hA.ne; have h2 := hA.hi
  have k0 := hB.lo; have k1 := hB.ne; have k2 := hB.hi
  rw [hs i hi]
  unfold plusR inR
  simp only
  constructor
  · rintro ⟨x, hx, hpx, y, hy, hqy, e⟩
    have h3 := (hp x hx).1 hpx
    have h4 := (hq y hy).1 hqy
    unfold inR at h3 h4
    omega
  · intro h
    obtain ⟨x, hx⟩ := Int.eq_ofNat_of_zero_le (show 0 ≤ max A.1 ((i : Int) - B.2) by omega)
    obtain ⟨y, hy⟩ := Int.eq_ofNat_of_zero_le (show 0 ≤ (i : Int) - max A.1 ((i : Int) - B.2) by omega)
    exact ⟨x, by omega, (hp x (by omega)).2 (by unfold inR; omega), y, by omega, (hq y (by omega)).2 (by unfold inR; omega), by omega⟩
theorem IvS.sub {p q s : Nat → Bool} {A B : R2} (hp : IvS p A) (hq : IvS q B) (hA : InB A) (hB : InB B) (hs : ∀ i, i < 3000 → (s i = true ↔ SumP p q (-1) 3000 i)) : IvS s (minusR A B) := fun i hi => by
  have h0 := hA.lo; have h1 := hA.ne; have h2 := hA.hi
  have k0 := hB.lo; have k1 := hB.ne; have k2 := hB.hi
  rw [hs i hi]
  unfold minusR inR
  simp only
  constructor
  · rintro ⟨x, hx, hpx, y, hy, hqy, e⟩
    have h3 := (hp x hx).1 hpx
    have h4 := (hq y hy).1 hqy
    unfold inR at h3 h4
    omega
  · intro h
    obtain ⟨y, hy⟩ := Int.eq_ofNat_of_zero_le (show 0 ≤ max B.1 (A.1 - (i : Int)) by omega)
    obtain ⟨x, hx⟩ := Int.eq_ofNat_of_zero_le (show 0 ≤ (i : Int) + max B.1 (A.1 - (i : Int)) by omega)
    exact ⟨x, by omega, (hp x (by omega)).2 (by unfold inR; omega), y, by omega, (hq y (by omega)).2 (by unfold inR; omega), by omega⟩
theorem sum_none {p q s : Nat → Bool} {sg : Int} (h : (∀ i, i < 3000 → p i = false) ∨ (∀ i, i < 3000 → q i = false)) (hs : ∀ i, i < 3000 → (s i = true ↔ SumP p q sg 3000 i)) : ∀ i, i < 3000 → s i = false := fun i hi => by
  cases e : s i
  · rfl
  · obtain ⟨x, hx, hpx, y, hy, hqy, _⟩ := (hs i hi).1 e
    rcases h with h | h
    · rw [h x hx] at hpx; cases hpx
    · rw [h y hy] at hqy; cases hqy
theorem inB_living {A r : R2} (hA : InB A) (r1 : 0 ≤ r.1) (r2 : r.1 ≤ r.2) (r3 : r.2 ≤ 1000) : InB (livingR r A) ∧ (livingR r A).2 ≤ A.2 := by
  have h0 := hA.lo; have h1 := hA.ne; have h2 := hA.hi
  have d1 := deadR_le (r := r) (n := A.1) r1 r2 r3 h0
  have d2 := deadR_le (r := r) (n := A.2) r1 r2 r3 (by omega)
  have e := few_mono (r := r) r3 h1
  have e2 := few_le_most (r := r) (a := A.2) r2 (by omega)
  unfold fewestR at e e2
  unfold mostR at e2
  refine ⟨⟨?_, ?_, ?_⟩, ?_⟩ <;> unfold livingR fewestR mostR <;> simp only <;> omega
end Go.Proofs.Ytjaoflfophcibaa
