/- Narrower tables: their ranges lie in the others'. -/
import Derived.Test.YtjaoflfophcibaaHP
namespace Go.Proofs.Ytjaoflfophcibaa
open Go.RowKit Go.Shelf

def subI (a b : R2) : Prop := b.1 ≤ a.1 ∧ a.2 ≤ b.2
/-- x has the ranges of y, or narrower ones. -/
structure Nar (x y : Tb) : Prop where
  nc : x.nc = y.nc
  ng : x.ng = y.ng
  ct : ∀ c g, subI (x.ct c g) (y.ct c g)
  b : ∀ c, subI (x.b c) (y.b c)
  r : ∀ i, subI (x.r i) (y.r i)
  n : ∀ i, subI (x.n i) (y.n i)
theorem few_rate {r s : R2} {n : Int} (h : r.2 ≤ s.2) (hn : 0 ≤ n) : fewestR s n ≤ fewestR r n := by
  have e : n * r.2 ≤ n * s.2 := Int.mul_le_mul_of_nonneg_left h hn
  unfold fewestR deadR
  simp only
  omega
theorem most_rate {r s : R2} {n : Int} (h : s.1 ≤ r.1) (hn : 0 ≤ n) : mostR r n ≤ mostR s n := by
  have e : n * s.1 ≤ n * r.1 := Int.mul_le_mul_of_nonneg_left h hn
  unfold mostR deadR
  simp only
  omega
theorem living_sub {r s a b : R2} (hrs : subI r s) (hab : subI a b) (s2 : s.2 ≤ 1000) (s3 : s.1 ≤ 1000) (ha : 0 ≤ a.1) (hne : a.1 ≤ a.2) : subI (livingR r a) (livingR s b) := by
  have h1 := few_rate (n := a.1) hrs.2 ha
  have h2 := few_mono (r := s) s2 hab.1
  have h3 := most_rate (n := a.2) hrs.1 (Int.le_trans ha hne)
  have h4 := most_mono (r := s) s3 hab.2
  unfold subI livingR
  simp only
  omega
theorem plus_sub {a b c d : R2} (h : subI a b) (k : subI c d) : subI (plusR a c) (plusR b d) := by
  unfold subI plusR at *
  simp only
  omega
theorem meet_sub {a b c d : R2} (h : subI a b) (k : subI c d) : subI (meetR a c) (meetR b d) := by
  unfold subI meetR at *
  simp only
  omega
theorem arr_sub {x y : Tb} {nb : Nat} (hN : Nar x y) (hy : Okw y nb) {c q : Nat} (hq : q < y.ng) {u v : Nat → R2} (hu : ∀ q, q < y.ng → 0 ≤ (u q).1 ∧ (u q).1 ≤ (u q).2) (huv : ∀ q, q < y.ng → subI (u q) (v q))
    (hb : 0 ≤ (x.b c).1 ∧ (x.b c).1 ≤ (x.b c).2) : subI (x.arr c q u) (y.arr c q v) := by
  have hl : x.last = y.last := by unfold Tb.last; rw [hN.ng]
  have hng := hy.ng2
  have e : ∀ q, q < y.ng → emptyR (u q) = false ∧ emptyR (v q) = false := fun q hq => by
    have h1 := hu q hq
    have h2 := huv q hq
    unfold subI at h2
    unfold emptyR
    exact ⟨decide_eq_false (by omega), decide_eq_false (by omega)⟩
  have hz : subI (0, 0) (0, 0) := ⟨Int.le_refl _, Int.le_refl _⟩
  have hw : subI (0, 1048576) (0, 1048576) := ⟨Int.le_refl _, Int.le_refl _⟩
  have hliv : ∀ i q, i < y.ng + 1 → q < y.ng → subI (livingR (x.r i) (u q)) (livingR (y.r i) (v q)) := fun i q hi hq => by
    obtain ⟨_, _, r3⟩ := hy.r i hi
    exact living_sub (hN.r i) (huv q hq) r3 (by omega) (hu q hq).1 (hu q hq).2
  have hliv0 : subI (livingR (x.r 0) (x.b c)) (livingR (y.r 0) (y.b c)) := by
    obtain ⟨_, _, r3⟩ := hy.r 0 (by omega)
    exact living_sub (hN.r 0) (hN.b c) r3 (by omega) hb.1 hb.2
  unfold Tb.arr
  simp only
  rw [hl]
  have h1 : (decide (0 < q) && emptyR (u (q - 1))) = false := by rw [(e (q - 1) (by omega)).1]; simp
  have h2 : (decide (q = y.last) && emptyR (u q)) = false := by rw [(e q hq).1]; simp
  have h3 : (decide (0 < q) && emptyR (v (q - 1))) = false := by rw [(e (q - 1) (by omega)).2]; simp
  have h4 : (decide (q = y.last) && emptyR (v q)) = false := by rw [(e q hq).2]; simp
  rw [h1, h2, h3, h4]
  simp only [Bool.or_self, Bool.false_eq_true, if_false]
  refine meet_sub (plus_sub ?_ (hN.n q)) hw
  by_cases e0 : q = 0
  · subst e0
    rw [if_pos rfl, if_pos rfl, if_neg (show ¬ 0 < 0 by omega), if_neg (show ¬ 0 < 0 by omega), if_neg (show ¬ 0 = y.last by unfold Tb.last; omega), if_neg (show ¬ 0 = y.last by unfold Tb.last; omega)]
    exact hliv0
  · rw [if_neg e0, if_neg e0, if_pos (show 0 < q by omega), if_pos (show 0 < q by omega)]
    have hr1 := plus_sub hz (hliv q (q - 1) (by omega) (by omega))
    by_cases e1 : q = y.last
    · rw [if_pos e1, if_pos e1]
      exact plus_sub hr1 (hliv (q + 1) q (by omega) hq)
    · rw [if_neg e1, if_neg e1]
      exact hr1
theorem own_sub {x y : Tb} (hN : Nar x y) (out : Nat → Nat → Bool) (c g : Nat) : subI (x.own out c g) (y.own out c g) := by
  unfold Tb.own
  split
  · exact ⟨Int.le_refl _, Int.le_refl _⟩
  · exact hN.ct c g
/-- The ranges of a narrower table lie in the others'. -/
theorem up_sub {x y : Tb} {nb : Nat} {out : Nat → Nat → Bool} (hN : Nar x y) (hy : Okw y nb) (hx : Okt x) (hu : Ups x out) : ∀ c, c < x.nc → ∀ g, g < y.ng → subI (x.up out c g) (y.up out c g)
  | 0, _, g, _ => meet_sub ⟨Int.le_refl _, Int.le_refl _⟩ (own_sub hN out 0 g)
  | c + 1, hc, g, hg => by
    have ih := up_sub hN hy hx hu c (by omega)
    have hnb := hx.nb
    have hb := hx.b c (by omega)
    exact meet_sub (arr_sub hN hy (c := c) hg (fun q hq => ⟨hu.z c q (by omega) (by rw [hN.ng]; exact hq), ne_of (hu.ne c q (by omega) (by rw [hN.ng]; exact hq))⟩) ih ⟨hb.1, hb.2.1⟩) (own_sub hN out (c + 1) g)
theorem nar_agree {x y : Tb} {out : Nat → Nat → Bool} (hN : Nar x y) (hx : Okt x) (hy : Okt y) (ha : x.agree out = true) : y.agree out = true := by
  have hu := ups_of hx ha
  refine agree_of_ne (fun q hq => ?_)
  have h := up_sub hN hy.w hx hu (x.nc - 1) (by have := hx.nc1; omega) q hq
  have h2 := ne_of (hu.ne (x.nc - 1) q (by have := hx.nc1; omega) (by rw [hN.ng]; exact hq))
  rw [hN.nc] at h h2
  unfold subI at h
  unfold emptyR
  exact decide_eq_false (by omega)
theorem nx_eq {x y : Tb} (h : x.ng = y.ng) (g : Nat) : x.nx g = y.nx g := by unfold Tb.nx Tb.last; rw [h]
theorem kR_sub {x y : Tb} {nb : Nat} (hN : Nar x y) (hy : Okw y nb) {g : Nat} (hg : g < y.ng) {u v : Nat → R2} (hu : ∀ q, q < y.ng → 0 ≤ (u q).1 ∧ (u q).1 ≤ (u q).2) (huv : ∀ q, q < y.ng → subI (u q) (v q)) : subI (kR x u g) (kR y v g) := by
  have hng := hy.ng2
  unfold kR
  rw [hN.ng, nx_eq hN.ng g]
  by_cases e : g + 1 < y.ng - 1
  · rw [if_pos e, if_pos e]; exact hN.n _
  · rw [if_neg e, if_neg e]
    obtain ⟨q, hq, hql⟩ : ∃ q, (if g = y.ng - 1 then y.ng - 2 else y.ng - 1) = q ∧ q < y.ng := ⟨_, rfl, by split <;> omega⟩
    rw [hq]
    obtain ⟨_, _, r3⟩ := hy.r (q + 1) (by omega)
    exact plus_sub (hN.n _) (living_sub (hN.r _) (huv q hql) r3 (by omega) (hu q hql).1 (hu q hql).2)
theorem rch_sub {x y : Tb} {nb : Nat} {out : Nat → Nat → Bool} (hN : Nar x y) (hy : Okw y nb) (hx : Okt x) (hu : Ups x out) : ∀ k c g n, c + k < x.nc → g < y.ng → 0 ≤ n → Rch x out k c g n → Rch y out k c g n
  | 0, _, _, _, _, _, _, _ => trivial
  | k + 1, c, g, n, hc, hg, hn, h => by
    obtain ⟨m, h1, h2, h3, h4, h5, h6⟩ := h
    have hnx : y.nx g < y.ng := by have := hy.ng2; unfold Tb.nx Tb.last; omega
    have hk := kR_sub hN hy hg (u := x.up out c) (v := y.up out c) (fun q hq => ⟨hu.z c q (by omega) (by rw [hN.ng]; exact hq), ne_of (hu.ne c q (by omega) (by rw [hN.ng]; exact hq))⟩) (up_sub hN hy hx hu c (by omega))
    have e1 := few_rate (r := x.r (g + 1)) (s := y.r (g + 1)) (hN.r _).2 hn
    have e2 := most_rate (r := x.r (g + 1)) (s := y.r (g + 1)) (hN.r _).1 hn
    have ho := own_sub hN out (c + 1) (y.nx g)
    rw [nx_eq hN.ng g] at h5 h6
    unfold subI at hk ho
    refine ⟨m, by omega, by omega, h3, h4, ?_, rch_sub hN hy hx hu k (c + 1) (y.nx g) m (by omega) hnx h3 h6⟩
    unfold inR at *
    omega
/-- With narrower ranges no bounds are wider. -/
theorem nar_bnd {x y : Tb} (hN : Nar x y) (hx : Okt x) (hy : Okt y) (ha : x.agree off0 = true) {c g : Nat} (hc : c < x.nc) (hg : g < x.ng) : subI (bndR x off0 c g) (bndR y off0 c g) := by
  have hu := ups_of hx ha
  have hv := ups_of hy (nar_agree hN hx hy ha)
  have hg' : g < y.ng := by rw [← hN.ng]; exact hg
  have hc' : c < y.nc := by rw [← hN.nc]; exact hc
  have hin : ∀ n, inR n (bndR x off0 c g) → inR n (bndR y off0 c g) := fun n h => by
    obtain ⟨h1, h2⟩ := (aft_iff hx.w hu (x.nc - 1 - c) c g (by omega) hg n).1 h
    have h3 := up_sub hN hy.w hx hu c hc g hg'
    have hn : 0 ≤ n := Int.le_trans (hu.z c g hc hg) h1.1
    have h4 := rch_sub hN hy.w hx hu (x.nc - 1 - c) c g n (by omega) hg' hn h2
    rw [hN.nc] at h4
    refine (aft_iff hy.w hv (y.nc - 1 - c) c g (by omega) hg' n).2 ⟨?_, h4⟩
    unfold inR subI at *
    omega
  obtain ⟨n, hn, hr⟩ := rch_ex hx.w hu (x.nc - 1 - c) c g (by omega) hg
  have hm := (aft_iff hx.w hu (x.nc - 1 - c) c g (by omega) hg n).2 ⟨hn, hr⟩
  have hle : (bndR x off0 c g).1 ≤ (bndR x off0 c g).2 := Int.le_trans hm.1 hm.2
  exact ⟨(hin _ ⟨Int.le_refl _, hle⟩).1, (hin _ ⟨hle, Int.le_refl _⟩).2⟩
end Go.Proofs.Ytjaoflfophcibaa
