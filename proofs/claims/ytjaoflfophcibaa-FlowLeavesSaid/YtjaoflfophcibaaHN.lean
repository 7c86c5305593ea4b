/- What is reckoned is exact: a size lies in the bounds if and only if it can go on. Would. -/
import Derived.Test.YtjaoflfophcibaaHT
namespace Go.Proofs.Ytjaoflfophcibaa
open Go.RowKit Go.Shelf

theorem few_mono {r : R2} {a b : Int} (r3 : r.2 ≤ 1000) (h : a ≤ b) : fewestR r a ≤ fewestR r b := by
  have e2 : (b - a) * r.2 ≤ (b - a) * 1000 := Int.mul_le_mul_of_nonneg_left r3 (by omega)
  have e4 : (b - a) * r.2 = b * r.2 - a * r.2 := Int.sub_mul _ _ _
  unfold fewestR deadR
  simp only
  generalize b * r.2 = x at *
  generalize a * r.2 = y at *
  omega
theorem most_mono {r : R2} {a b : Int} (r3 : r.1 ≤ 1000) (h : a ≤ b) : mostR r a ≤ mostR r b := by
  have e2 : (b - a) * r.1 ≤ (b - a) * 1000 := Int.mul_le_mul_of_nonneg_left r3 (by omega)
  have e4 : (b - a) * r.1 = b * r.1 - a * r.1 := Int.sub_mul _ _ _
  unfold mostR deadR
  simp only
  generalize b * r.1 = x at *
  generalize a * r.1 = y at *
  omega
theorem few_le_most {r : R2} {a : Int} (h : r.1 ≤ r.2) (ha : 0 ≤ a) : fewestR r a ≤ mostR r a := by
  have e1 : a * r.1 ≤ a * r.2 := Int.mul_le_mul_of_nonneg_left h ha
  unfold fewestR mostR deadR
  simp only
  omega
theorem few_succ {r : R2} {a : Int} (h : r.1 ≤ r.2) (h2 : 0 ≤ r.2) (ha : 0 ≤ a) : fewestR r (a + 1) ≤ mostR r a + 1 := by
  have e1 : a * r.1 ≤ a * r.2 := Int.mul_le_mul_of_nonneg_left h ha
  have e2 : (a + 1) * r.2 = a * r.2 + r.2 := by rw [Int.add_mul, Int.one_mul]
  unfold fewestR mostR deadR
  simp only
  rw [e2]
  omega
theorem cont {r : R2} {K1 K2 m : Int} (h : r.1 ≤ r.2) (h0 : 0 ≤ r.2) (hK : K1 ≤ K2) : ∀ (f : Nat) (a b : Int), 0 ≤ a → b - a = f → fewestR r a + K1 ≤ m → m ≤ mostR r b + K2 → ∃ n, a ≤ n ∧ n ≤ b ∧ fewestR r n + K1 ≤ m ∧ m ≤ mostR r n + K2
  | 0, a, b, ha, hf, h1, h2 => by
    obtain rfl : a = b := by omega
    exact ⟨a, Int.le_refl _, Int.le_refl _, h1, h2⟩
  | f + 1, a, b, ha, hf, h1, h2 => by
    by_cases h3 : m ≤ mostR r a + K2
    · exact ⟨a, Int.le_refl _, by omega, h1, h3⟩
    · have h4 := few_succ (a := a) h h0 ha
      obtain ⟨n, n1, n2, n3, n4⟩ := cont h h0 hK f (a + 1) b (by omega) (by omega) (by omega) h2
      exact ⟨n, by omega, n2, n3, n4⟩
theorem loEnd_gt {hi n : Int} {P : Int → Bool} : ∀ (f : Nat) (lo : Int), (∀ v, lo ≤ v → v ≤ n → P v = true) → lo ≤ n → n ≤ hi → n - lo + 1 ≤ f → n < loEnd hi P f lo
  | 0, lo, _, _, _, h => by omega
  | f + 1, lo, hp, h1, h2, h3 => by
    unfold loEnd
    rw [hp lo (Int.le_refl _) h1, decide_eq_true (by omega : lo ≤ hi)]
    simp only [Bool.and_self, if_true]
    by_cases e : lo + 1 ≤ n
    · exact loEnd_gt f (lo + 1) (fun v a b => hp v (by omega) b) e h2 (by omega)
    · have := (loEnd_bd hi P f (lo + 1)).1; omega
theorem hiEnd_lt {lo n : Int} {P : Int → Bool} : ∀ (f : Nat) (hi : Int), (∀ v, n ≤ v → v ≤ hi → P v = true) → n ≤ hi → lo ≤ n → hi - n + 1 ≤ f → hiEnd lo P f hi < n
  | 0, hi, _, _, _, h => by omega
  | f + 1, hi, hp, h1, h2, h3 => by
    unfold hiEnd
    rw [hp hi h1 (Int.le_refl _), decide_eq_true (by omega : lo ≤ hi)]
    simp only [Bool.and_self, if_true]
    by_cases e : n ≤ hi - 1
    · exact hiEnd_lt f (hi - 1) (fun v a b => hp v a (by omega)) e h2 (by omega)
    · have := (hiEnd_bd lo P f (hi - 1)).1; omega
theorem trim_iff {r goal s : R2} {n : Int} (r2 : r.1 ≤ r.2) (r3 : r.2 ≤ 1000) : inR n (trimR r goal s) ↔ inR n s ∧ goal.1 ≤ mostR r n ∧ fewestR r n ≤ goal.2 := by
  constructor
  · rintro ⟨h1, h2⟩
    have b1 := (loEnd_bd s.2 (loP r goal) (s.2 - s.1 + 1).toNat s.1).1
    have b2 := (hiEnd_bd (trimLo r goal s) (hiP r goal) (s.2 - trimLo r goal s + 1).toNat s.2).1
    have h1' : trimLo r goal s ≤ n := h1
    have h2' : n ≤ trimHi r goal s := h2
    have hs1 : s.1 ≤ n := Int.le_trans b1 h1'
    have hs2 : n ≤ s.2 := Int.le_trans h2' b2
    refine ⟨⟨hs1, hs2⟩, ?_, ?_⟩
    · refine Decidable.byContradiction fun hc => ?_
      have := loEnd_gt (hi := s.2) (n := n) (P := loP r goal) (s.2 - s.1 + 1).toNat s.1 (fun v _ hv => decide_eq_true (by have := most_mono (r := r) (by omega) hv; omega)) hs1 hs2 (by omega)
      have e : trimLo r goal s = loEnd s.2 (loP r goal) (s.2 - s.1 + 1).toNat s.1 := rfl
      omega
    · refine Decidable.byContradiction fun hc => ?_
      have := hiEnd_lt (lo := trimLo r goal s) (n := n) (P := hiP r goal) (s.2 - trimLo r goal s + 1).toNat s.2 (fun v hv _ => decide_eq_true (by have := few_mono r3 hv; omega)) hs2 h1' (by omega)
      have e : trimHi r goal s = hiEnd (trimLo r goal s) (hiP r goal) (s.2 - trimLo r goal s + 1).toNat s.2 := rfl
      omega
  · rintro ⟨h1, h2, h3⟩
    have e1 : loP r goal n = false := decide_eq_false (by omega)
    have e2 : hiP r goal n = false := decide_eq_false (by omega)
    exact ⟨loEnd_le e1 _ _ h1.1, hiEnd_ge e2 _ _ h1.2⟩
/-- What else comes to the group to which g leads. -/
def kR (t : Tb) (up : Nat → R2) (g : Nat) : R2 :=
  if g + 1 < t.ng - 1 then t.n (t.nx g) else plusR (t.n (t.nx g)) (livingR (t.r ((if g = t.ng - 1 then t.ng - 2 else t.ng - 1) + 1)) (up (if g = t.ng - 1 then t.ng - 2 else t.ng - 1)))
theorem arr_k {t : Tb} {c g : Nat} {up : Nat → R2} (hng : 2 ≤ t.ng) (hg : g < t.ng) (he : ∀ q, q < t.ng → emptyR (up q) = false) : t.arr c (t.nx g) up = meetR (plusR (livingR (t.r (g + 1)) (up g)) (kR t up g)) (0, 1048576) := by
  unfold Tb.arr
  simp only
  have hnx : 0 < t.nx g := by unfold Tb.nx Tb.last; omega
  have h1 : (decide (0 < t.nx g) && emptyR (up (t.nx g - 1))) = false := by rw [he _ (by unfold Tb.nx Tb.last; omega)]; simp
  have h2 : (decide (t.nx g = t.last) && emptyR (up (t.nx g))) = false := by rw [he _ (by unfold Tb.nx Tb.last; omega)]; simp
  rw [h1, h2]
  simp only [Bool.or_self, Bool.false_eq_true, if_false]
  rw [if_pos hnx, if_neg (show ¬ t.nx g = 0 by omega)]
  unfold kR
  by_cases e1 : g + 1 < t.ng - 1
  · have en : t.nx g = g + 1 := by unfold Tb.nx Tb.last; omega
    rw [if_pos e1, en, if_neg (show ¬ g + 1 = t.last by unfold Tb.last; omega), show g + 1 - 1 = g by omega]
    unfold meetR plusR
    simp only
    congr 2 <;> omega
  · have en : t.nx g = t.ng - 1 := by unfold Tb.nx Tb.last; omega
    rw [if_neg e1, en, if_pos (show t.ng - 1 = t.last from rfl), show t.ng - 1 - 1 = t.ng - 2 by omega]
    by_cases e2 : g = t.ng - 1
    · rw [if_pos e2, ← e2, show t.ng - 2 + 1 = g by omega]
      unfold meetR plusR
      simp only
      congr 2 <;> omega
    · have e3 : t.ng - 2 = g := by omega
      rw [if_neg e2, e3, show t.ng - 1 = g + 1 by omega]
      unfold meetR plusR
      simp only
      congr 2 <;> omega
theorem sub_k {t : Tb} {g : Nat} {up : Nat → R2} {A : R2} (hng : 2 ≤ t.ng) (hg : g < t.ng) : subR t g (t.nx g) up (minusR A (t.n (t.nx g))) (srcG t (t.nx g)).length = minusR A (kR t up g) := by
  unfold kR
  by_cases e1 : g + 1 < t.ng - 1
  · have en : t.nx g = g + 1 := by unfold Tb.nx Tb.last; omega
    have es : srcG t (g + 1) = [g] := by unfold srcG; rw [if_pos (by omega), if_neg (by omega)]; simp
    rw [if_pos e1, en]
    unfold subR
    rw [es]
    simp only [List.length_cons, List.length_nil, List.take_succ_cons, List.take_nil, List.foldl_cons, List.foldl_nil, if_true]
  · obtain ⟨l, hlast⟩ : ∃ l, t.ng = l + 2 := ⟨t.ng - 2, by omega⟩
    have en : t.nx g = l + 1 := by unfold Tb.nx Tb.last; omega
    have es : srcG t (l + 1) = [l, l + 1] := by unfold srcG; rw [if_pos (by omega), if_pos (by omega)]; simp
    rw [if_neg e1, en, show t.ng - 1 = l + 1 by omega, show t.ng - 2 = l by omega]
    unfold subR
    rw [es]
    simp only [List.length_cons, List.length_nil, List.take_succ_cons, List.take_nil, List.foldl_cons, List.foldl_nil]
    by_cases e2 : g = l + 1
    · subst e2
      rw [if_pos rfl, if_neg (show ¬ l = l + 1 by omega), if_pos rfl]
      unfold minusR plusR
      simp only
      congr 1 <;> omega
    · obtain rfl : g = l := by omega
      rw [if_neg (show ¬ g + 1 = g by omega), if_pos rfl, if_neg (show ¬ g = g + 1 by omega)]
      unfold minusR plusR
      simp only
      congr 1 <;> omega
/-- A size can go on for k censuses. -/
def Rch (t : Tb) (out : Nat → Nat → Bool) : Nat → Nat → Nat → Int → Prop
  | 0, _, _, _ => True
  | k + 1, c, g, n => ∃ m, fewestR (t.r (g + 1)) n + (kR t (t.up out c) g).1 ≤ m ∧ m ≤ mostR (t.r (g + 1)) n + (kR t (t.up out c) g).2 ∧ 0 ≤ m ∧ m ≤ 1048576 ∧ inR m (t.own out (c + 1) (t.nx g)) ∧ Rch t out k (c + 1) (t.nx g) m
theorem inR_meet {a b : R2} {n : Int} : inR n (meetR a b) ↔ inR n a ∧ inR n b := by
  unfold inR meetR
  simp only
  constructor <;> intro h <;> omega
theorem ne_of {r : R2} (h : emptyR r = false) : r.1 ≤ r.2 := by
  unfold emptyR at h; have := of_decide_eq_false h; omega
theorem kR_ne {t : Tb} {nb : Nat} {up : Nat → R2} {g : Nat} (ht : Okw t nb) (hg : g < t.ng) (hz : ∀ q, q < t.ng → 0 ≤ (up q).1 ∧ (up q).1 ≤ (up q).2) : (kR t up g).1 ≤ (kR t up g).2 := by
  have hng := ht.ng2
  have hn := ht.n (t.nx g) (by unfold Tb.nx Tb.last; omega)
  unfold kR
  split
  · omega
  · obtain ⟨q, hq, hql⟩ : ∃ q, (if g = t.ng - 1 then t.ng - 2 else t.ng - 1) = q ∧ q < t.ng := ⟨_, rfl, by split <;> omega⟩
    rw [hq]
    obtain ⟨h1, h2⟩ := hz q hql
    obtain ⟨r1, r2, r3⟩ := ht.r (q + 1) (by omega)
    have h3 := few_le_most (r := t.r (q + 1)) (a := (up q).1) r2 h1
    have h4 := most_mono (r := t.r (q + 1)) (by omega) h2
    unfold plusR livingR
    simp only
    omega
/-- The ranges of all cells are such. -/
structure Ups (t : Tb) (out : Nat → Nat → Bool) : Prop where
  z : ∀ c g, c < t.nc → g < t.ng → 0 ≤ (t.up out c g).1
  ne : ∀ c g, c < t.nc → g < t.ng → emptyR (t.up out c g) = false
theorem up_next {t : Tb} {nb : Nat} {out : Nat → Nat → Bool} (ht : Okw t nb) {c g : Nat} (hg : g < t.ng) (he : ∀ q, q < t.ng → emptyR (t.up out c q) = false) {n m : Int} (hn : inR n (t.up out c g))
    (h1 : fewestR (t.r (g + 1)) n + (kR t (t.up out c) g).1 ≤ m) (h2 : m ≤ mostR (t.r (g + 1)) n + (kR t (t.up out c) g).2) (h3 : 0 ≤ m) (h4 : m ≤ 1048576) (h5 : inR m (t.own out (c + 1) (t.nx g))) : inR m (t.up out (c + 1) (t.nx g)) := by
  obtain ⟨r1, r2, r3⟩ := ht.r (g + 1) (by omega)
  refine inR_meet.2 ⟨?_, h5⟩
  show inR m (t.arr c (t.nx g) (t.up out c))
  rw [arr_k ht.ng2 hg he]
  refine inR_meet.2 ⟨?_, h3, h4⟩
  have e1 := few_mono (r := t.r (g + 1)) r3 hn.1
  have e2 := most_mono (r := t.r (g + 1)) (by omega) hn.2
  unfold inR plusR livingR
  simp only
  omega
theorem up_prev {t : Tb} {nb : Nat} {out : Nat → Nat → Bool} (ht : Okw t nb) (hu : Ups t out) {c g : Nat} (hc : c < t.nc) (hg : g < t.ng) {m : Int} (hm : inR m (t.up out (c + 1) (t.nx g))) :
    0 ≤ m ∧ m ≤ 1048576 ∧ inR m (t.own out (c + 1) (t.nx g)) ∧ ∃ n, inR n (t.up out c g) ∧ fewestR (t.r (g + 1)) n + (kR t (t.up out c) g).1 ≤ m ∧ m ≤ mostR (t.r (g + 1)) n + (kR t (t.up out c) g).2 := by
  obtain ⟨r1, r2, r3⟩ := ht.r (g + 1) (by omega)
  obtain ⟨h1, h2⟩ := inR_meet.1 hm
  have h1' : inR m (t.arr c (t.nx g) (t.up out c)) := h1
  rw [arr_k ht.ng2 hg (fun q hq => hu.ne c q hc hq)] at h1'
  obtain ⟨h3, h4⟩ := inR_meet.1 h1'
  have hk := kR_ne (up := t.up out c) ht hg (fun q hq => ⟨hu.z c q hc hq, ne_of (hu.ne c q hc hq)⟩)
  have hz := hu.z c g hc hg
  have hne := ne_of (hu.ne c g hc hg)
  unfold inR plusR livingR at h3
  simp only at h3
  obtain ⟨n, n1, n2, n3, n4⟩ := cont (K1 := (kR t (t.up out c) g).1) (K2 := (kR t (t.up out c) g).2) (m := m) r2 (by omega) hk ((t.up out c g).2 - (t.up out c g).1).toNat (t.up out c g).1 (t.up out c g).2 hz (by omega) h3.1 h3.2
  exact ⟨h4.1, h4.2, h2, n, ⟨n1, n2⟩, n3, n4⟩
theorem rch_ex {t : Tb} {nb : Nat} {out : Nat → Nat → Bool} (ht : Okw t nb) (hu : Ups t out) : ∀ k c g, c + k < t.nc → g < t.ng → ∃ n, inR n (t.up out c g) ∧ Rch t out k c g n
  | 0, c, g, hc, hg => ⟨(t.up out c g).1, ⟨Int.le_refl _, ne_of (hu.ne c g hc hg)⟩, trivial⟩
  | k + 1, c, g, hc, hg => by
    have hnx : t.nx g < t.ng := by have := ht.ng2; unfold Tb.nx Tb.last; omega
    obtain ⟨m, hm, hr⟩ := rch_ex ht hu k (c + 1) (t.nx g) (by omega) hnx
    obtain ⟨h1, h2, h3, n, hn, h4, h5⟩ := up_prev ht hu (by omega) hg hm
    exact ⟨n, hn, m, h4, h5, h1, h2, h3, hr⟩
theorem aft_iff {t : Tb} {nb : Nat} {out : Nat → Nat → Bool} (ht : Okw t nb) (hu : Ups t out) : ∀ k c g, c + k < t.nc → g < t.ng → ∀ n, inR n (t.aft out k c g (t.up out c g)) ↔ inR n (t.up out c g) ∧ Rch t out k c g n
  | 0, c, g, _, _, n => ⟨fun h => ⟨h, trivial⟩, fun h => h.1⟩
  | k + 1, c, g, hc, hg, n => by
    have hnx : t.nx g < t.ng := by have := ht.ng2; unfold Tb.nx Tb.last; omega
    have ih := aft_iff ht hu k (c + 1) (t.nx g) (by omega) hnx
    obtain ⟨m0, hm0, hr0⟩ := rch_ex ht hu k (c + 1) (t.nx g) (by omega) hnx
    have ha0 := (ih m0).2 ⟨hm0, hr0⟩
    obtain ⟨r1, r2, r3⟩ := ht.r (g + 1) (by omega)
    have hk := kR_ne (up := t.up out c) ht hg (fun q hq => ⟨hu.z c q (by omega) hq, ne_of (hu.ne c q (by omega) hq)⟩)
    show inR n (if emptyR (t.up out c g) = true then t.up out c g else trimR (t.r (g + 1)) (subR t g (t.nx g) (t.up out c) (minusR (t.aft out k (c + 1) (t.nx g) (t.up out (c + 1) (t.nx g))) (t.n (t.nx g))) (srcG t (t.nx g)).length) (t.up out c g)) ↔ _
    rw [if_neg (by rw [hu.ne c g (by omega) hg]; decide), sub_k ht.ng2 hg, trim_iff r2 r3]
    generalize hA : t.aft out k (c + 1) (t.nx g) (t.up out (c + 1) (t.nx g)) = A at *
    constructor
    · rintro ⟨h1, h2, h3⟩
      refine ⟨h1, ?_⟩
      have hn0 : 0 ≤ n := Int.le_trans (hu.z c g (by omega) hg) h1.1
      have hfm := few_le_most (r := t.r (g + 1)) (a := n) r2 hn0
      unfold minusR at h2 h3
      simp only at h2 h3
      have ha := Int.le_trans ha0.1 ha0.2
      have hm : inR (max A.1 (fewestR (t.r (g + 1)) n + (kR t (t.up out c) g).1)) A := by unfold inR; omega
      obtain ⟨q1, q2⟩ := (ih _).1 hm
      obtain ⟨w1, w2, w3, _⟩ := up_prev ht hu (by omega) hg q1
      exact ⟨_, by omega, by omega, w1, w2, w3, q2⟩
    · rintro ⟨h1, m, m1, m2, m3, m4, m5, m6⟩
      have hm := (ih m).2 ⟨up_next ht hg (fun q hq => hu.ne c q (by omega) hq) h1 m1 m2 m3 m4 m5, m6⟩
      refine ⟨h1, ?_, ?_⟩
      · unfold minusR; simp only; have := hm.1; omega
      · unfold minusR; simp only; have := hm.2; omega
end Go.Proofs.Ytjaoflfophcibaa
