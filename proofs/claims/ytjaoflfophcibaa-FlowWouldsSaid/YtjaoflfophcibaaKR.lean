/- The plain law of the reference's Down: it has the sizes from which the later counts can be reached. -/
import Derived.Test.YtjaoflfophcibaaKO
namespace Go.Proofs.Ytjaoflfophcibaa
open Go.RowKit Go.Shelf

/-- The sizes of which some number of survivors is in p. -/
def DwnP (p : Nat → Bool) (r : R2) (i : Nat) : Prop := ∃ y, y ≤ i ∧ p y = true ∧ (deadR r i).1 ≤ (i : Int) - y ∧ (i : Int) - y ≤ (deadR r i).2
/-- What Down has to be, on the sizes that are possible by the earlier counts. -/
def DnS (t : Tb) (out : Nat → Nat → Bool) (c g : Nat) (q : Nat → Bool) : Prop := ∀ n : Nat, n < 3000 → inR (n : Int) (t.up out c g) → (q n = true ↔ Rch t out (t.nc - 1 - c) c g n)
/-- The goal for the survivors. -/
def GoalS (t : Tb) (out : Nat → Nat → Bool) (c g : Nat) (s0 s1 : Nat → Bool) : Prop :=
  (t.nx g = t.last → ∃ U l, IvS U (t.up out c (if g = t.last then g - 1 else g + 1)) ∧ (∀ i, i < 3000 → (l i = true ↔ LivP U (t.r ((if g = t.last then g - 1 else g + 1) + 1)) 3000 i)) ∧ ∀ i, i < 3000 → (s1 i = true ↔ SumP s0 l (-1) 3000 i)) ∧ (t.nx g ≠ t.last → s1 = s0)
theorem up_sum {t : Tb} {nb : Nat} {out : Nat → Nat → Bool} (ht : Okw t nb) (ho : ∀ c g, c < t.nc → g < t.ng → 0 ≤ (t.own out c g).1) {c : Nat} (hc : c ≤ nb) (h3 : c ≤ 2) (hn : c < t.nc) {g h : Nat} (hg : g < t.ng) (hh : h < t.ng) (hgh : g ≠ h) : (t.up out c g).2 + (t.up out c h).2 ≤ 2900 := by
  have h1 := bf_hi ht ho c hc (by omega) (by omega) g hg
  have h2 := bf_hi ht ho c hc (by omega) (by omega) h hh
  have k1 := up_le (t := t) (out := out) (c := c) (g := g)
  have k2 := up_le (t := t) (out := out) (c := c) (g := h)
  by_cases e : g = t.last
  · have h3 := h2.2.1 (by omega)
    omega
  · have h3 := h1.2.1 e
    omega
theorem three_sum {a1 a2 b1 b2 c1 c2 m : Int} (ha : a1 ≤ a2) (hb : b1 ≤ b2) (hc : c1 ≤ c2) (h1 : a1 + (b1 + c1) ≤ m) (h2 : m ≤ a2 + (b2 + c2)) : ∃ y l v, a1 ≤ y ∧ y ≤ a2 ∧ b1 ≤ v ∧ v ≤ b2 ∧ c1 ≤ l ∧ l ≤ c2 ∧ m = y + l + v :=
  ⟨max a1 (m - c2 - b2), max c1 (m - max a1 (m - c2 - b2) - b2), m - max a1 (m - c2 - b2) - max c1 (m - max a1 (m - c2 - b2) - b2), by omega, by omega, by omega, by omega, by omega, by omega, by omega⟩
theorem two_sum {a1 a2 b1 b2 m : Int} (ha : a1 ≤ a2) (hb : b1 ≤ b2) (h1 : a1 + b1 ≤ m) (h2 : m ≤ a2 + b2) : ∃ y v, a1 ≤ y ∧ y ≤ a2 ∧ b1 ≤ v ∧ v ≤ b2 ∧ m = y + v :=
  ⟨max a1 (m - b2), m - max a1 (m - b2), by omega, by omega, by omega, by omega, by omega⟩
theorem down_law {t : Tb} {out : Nat → Nat → Bool} {c g : Nat} (ht : OkR t) (hnb : t.nb + 1 = t.nc) (hu : Ups t out) (hc : c + 1 < t.nc) (hg : g < t.ng) {O D s0 s1 q : Nat → Bool}
    (hO : IvS O (t.own out (c + 1) (t.nx g))) (hD : DnS t out (c + 1) (t.nx g) D)
    (h0 : ∀ i, i < 3000 → (s0 i = true ↔ MovP (fun m => O m && D m) (-(t.n (t.nx g)).2) (-(t.n (t.nx g)).1) 3000 i))
    (h1 : GoalS t out c g s0 s1) (hq : ∀ i, i < 3000 → (q i = true ↔ DwnP s1 (t.r (g + 1)) i)) : DnS t out c g q := by
  intro n hn hin
  have hng := ht.ng2; have hng4 := ht.ng4; have nc4 := ht.nc4
  have hnx : t.nx g < t.ng := by unfold Tb.nx Tb.last; omega
  obtain ⟨n1, n2, n3⟩ := ht.n (t.nx g) (by rw [ht.nn]; exact hnx)
  obtain ⟨r1, r2, r3⟩ := ht.r (g + 1) (by rw [ht.nr]; omega)
  obtain ⟨d1, d2, d3⟩ := deadR_le (r := t.r (g + 1)) (n := (n : Int)) r1 r2 r3 (by omega)
  have hne : ∀ q, q < t.ng → emptyR (t.up out c q) = false := fun q hq => hu.ne c q (by omega) hq
  have hin3 := up_inB ht.w (ht.own out) (c := c) (by omega) (by omega) (by omega)
  have hin3' := up_inB ht.w (ht.own out) (c := c + 1) (by omega) (by omega) (by omega) (t.nx g) hnx
  have hunx := hu.ne (c + 1) (t.nx g) (by omega) hnx
  have hik : InB (t.up out (c + 1) (t.nx g)) := by
    rcases hin3' with h | h
    · rw [hunx] at h; cases h
    · exact h
  have hk : t.nc - 1 - c = (t.nc - 1 - (c + 1)) + 1 := by omega
  have hnext : ∀ m : Int, fewestR (t.r (g + 1)) n + (kR t (t.up out c) g).1 ≤ m → m ≤ mostR (t.r (g + 1)) n + (kR t (t.up out c) g).2 → 0 ≤ m → m ≤ 1048576 → inR m (t.own out (c + 1) (t.nx g)) → inR m (t.up out (c + 1) (t.nx g)) := fun m a b c' d e => up_next ht.w hg hne hin a b c' d e
  rw [hq n hn, hk]
  show _ ↔ ∃ m, _
  by_cases hl : t.nx g = t.last
  · -- the last group: another group leads to it besides
    obtain ⟨U, l, hU, hl1, hs⟩ := h1.1 hl
    have ho : (if g = t.last then g - 1 else g + 1) = (if g = t.ng - 1 then t.ng - 2 else t.ng - 1) := by
      unfold Tb.nx at hl
      unfold Tb.last at hl ⊢
      by_cases e : g = t.ng - 1
      · rw [if_pos e, if_pos e]; omega
      · rw [if_neg e, if_neg e]; omega
    rw [ho] at hU hl1
    have hkR : kR t (t.up out c) g = plusR (t.n (t.nx g)) (livingR (t.r ((if g = t.ng - 1 then t.ng - 2 else t.ng - 1) + 1)) (t.up out c (if g = t.ng - 1 then t.ng - 2 else t.ng - 1))) := by
      unfold kR
      exact if_neg (by unfold Tb.nx Tb.last at hl; omega)
    have hoo : (if g = t.ng - 1 then t.ng - 2 else t.ng - 1) < t.ng := by split <;> omega
    have hog : g ≠ (if g = t.ng - 1 then t.ng - 2 else t.ng - 1) := by split <;> omega
    have hsum := up_sum ht.w (ht.own out) (c := c) (by omega) (by omega) (by omega) hg hoo hog
    generalize (if g = t.ng - 1 then t.ng - 2 else t.ng - 1) = o at hkR hU hl1 hoo hog hsum
    rw [hkR] at hnext ⊢
    clear hkR ho
    have hUi : InB (t.up out c o) := by
      rcases hin3 o hoo with h | h
      · rw [hne o hoo] at h; cases h
      · exact h
    obtain ⟨s1', s2', s3'⟩ := ht.r (o + 1) (by rw [ht.nr]; omega)
    have hLv := IvS.living hU hUi s1' s2' s3' hl1
    obtain ⟨hLi, hLle⟩ := inB_living hUi s1' s2' s3'
    have hLne := hLi.ne
    have hL0 := hLi.lo
    have hnup := hin.2
    generalize livingR (t.r (o + 1)) (t.up out c o) = L at *
    constructor
    · rintro ⟨y, hy, hs1, e1, e2⟩
      obtain ⟨x, hx, hx0, z, hz, hlz, exy⟩ := (hs y (by omega)).1 hs1
      obtain ⟨m, hm, hmB, e3, e4⟩ := (h0 x hx).1 hx0
      rw [Bool.and_eq_true] at hmB
      have hLz := (hLv z hz).1 hlz
      obtain ⟨z1, z2⟩ := hLz
      have hmO := (hO m hm).1 hmB.1
      have a1 : fewestR (t.r (g + 1)) n + (plusR (t.n (t.nx g)) L).1 ≤ (m : Int) := by unfold fewestR plusR; simp only; omega
      have a2 : (m : Int) ≤ mostR (t.r (g + 1)) n + (plusR (t.n (t.nx g)) L).2 := by unfold mostR plusR; simp only; omega
      have hmu := hnext m a1 a2 (by omega) (by omega) hmO
      exact ⟨m, a1, a2, by omega, by omega, hmO, (hD m hm hmu).1 hmB.2⟩
    · rintro ⟨m, a1, a2, a3, a4, hmO, hR⟩
      have hmu := hnext m a1 a2 a3 a4 hmO
      have hm2 : m ≤ 2999 := Int.le_trans hmu.2 hik.hi
      obtain ⟨k, rfl⟩ := Int.eq_ofNat_of_zero_le a3
      unfold fewestR plusR at a1
      unfold mostR plusR at a2
      simp only at a1 a2
      obtain ⟨y, z, v, y1, y2, v1, v2, z1, z2, e⟩ := three_sum (a1 := (n : Int) - (deadR (t.r (g + 1)) n).2) (a2 := (n : Int) - (deadR (t.r (g + 1)) n).1) (by omega) n2 hLne a1 a2
      obtain ⟨yn, rfl⟩ := Int.eq_ofNat_of_zero_le (show 0 ≤ y by omega)
      obtain ⟨zn, rfl⟩ := Int.eq_ofNat_of_zero_le (show 0 ≤ z by omega)
      have hz3 : zn < 3000 := by omega
      have hx3 : yn + zn < 3000 := by omega
      refine ⟨yn, by omega, (hs yn (by omega)).2 ⟨yn + zn, hx3, (h0 _ hx3).2 ⟨k, by omega, ?_, by omega, by omega⟩, zn, hz3, (hLv zn hz3).2 ⟨z1, z2⟩, by omega⟩, by omega, by omega⟩
      rw [Bool.and_eq_true]
      exact ⟨(hO k (by omega)).2 hmO, (hD k (by omega) hmu).2 hR⟩
  · have es := h1.2 hl
    subst es
    have hkR : kR t (t.up out c) g = t.n (t.nx g) := by
      unfold kR
      exact if_pos (by unfold Tb.nx Tb.last at hl; omega)
    rw [hkR] at hnext ⊢
    clear hkR
    constructor
    · rintro ⟨y, hy, hs1, e1, e2⟩
      obtain ⟨m, hm, hmB, e3, e4⟩ := (h0 y (by omega)).1 hs1
      rw [Bool.and_eq_true] at hmB
      have hmO := (hO m hm).1 hmB.1
      have a1 : fewestR (t.r (g + 1)) n + (t.n (t.nx g)).1 ≤ (m : Int) := by unfold fewestR; omega
      have a2 : (m : Int) ≤ mostR (t.r (g + 1)) n + (t.n (t.nx g)).2 := by unfold mostR; omega
      have hmu := hnext m a1 a2 (by omega) (by omega) hmO
      exact ⟨m, a1, a2, by omega, by omega, hmO, (hD m hm hmu).1 hmB.2⟩
    · rintro ⟨m, a1, a2, a3, a4, hmO, hR⟩
      have hmu := hnext m a1 a2 a3 a4 hmO
      have hm2 : m ≤ 2999 := Int.le_trans hmu.2 hik.hi
      obtain ⟨k, rfl⟩ := Int.eq_ofNat_of_zero_le a3
      unfold fewestR at a1
      unfold mostR at a2
      obtain ⟨y, v, y1, y2, v1, v2, e⟩ := two_sum (a1 := (n : Int) - (deadR (t.r (g + 1)) n).2) (a2 := (n : Int) - (deadR (t.r (g + 1)) n).1) (by omega) n2 a1 a2
      obtain ⟨yn, rfl⟩ := Int.eq_ofNat_of_zero_le (show 0 ≤ y by omega)
      refine ⟨yn, by omega, (h0 yn (by omega)).2 ⟨k, by omega, ?_, by omega, by omega⟩, by omega, by omega⟩
      rw [Bool.and_eq_true]
      exact ⟨(hO k (by omega)).2 hmO, (hD k (by omega) hmu).2 hR⟩
theorem down_last {t : Tb} {out : Nat → Nat → Bool} {g : Nat} (h1 : 1 ≤ t.nc) : DnS t out (t.nc - 1) g (fillP 0 3000) := by
  intro n hn _
  rw [show t.nc - 1 - (t.nc - 1) = 0 by omega]
  exact ⟨fun _ => trivial, fun _ => by unfold fillP; exact decide_eq_true (by omega)⟩
/-- Both by the earlier and by the later counts: the bounds. -/
theorem both_bnd {t : Tb} {out : Nat → Nat → Bool} {c g : Nat} (ht : OkR t) (hnb : t.nb + 1 = t.nc) (hu : Ups t out) (hc : c < t.nc) (hg : g < t.ng) {P D : Nat → Bool} (hP : IvS P (t.up out c g)) (hD : DnS t out c g D) :
    IvS (fun m => P m && D m) (bndR t out c g) ∧ InB (bndR t out c g) := by
  have nc4 := ht.nc4
  have hiff := aft_iff ht.w hu (t.nc - 1 - c) c g (by omega) hg
  have hi : InB (t.up out c g) := by
    rcases up_inB ht.w (ht.own out) (c := c) (by omega) (by omega) hc g hg with h | h
    · rw [hu.ne c g hc hg] at h; cases h
    · exact h
  refine ⟨fun m hm => ?_, ?_⟩
  · rw [Bool.and_eq_true, hP m hm]
    refine Iff.trans ?_ (hiff m).symm
    exact ⟨fun ⟨a, b⟩ => ⟨a, (hD m hm a).1 b⟩, fun ⟨a, b⟩ => ⟨a, (hD m hm a).2 b⟩⟩
  · obtain ⟨n, hn1, hn2⟩ := rch_ex ht.w hu (t.nc - 1 - c) c g (by omega) hg
    have hb := (hiff n).2 ⟨hn1, hn2⟩
    have hb' : inR n (bndR t out c g) := hb
    have hne : (bndR t out c g).1 ≤ (bndR t out c g).2 := Int.le_trans hb'.1 hb'.2
    have k1 := ((hiff (bndR t out c g).1).1 ⟨Int.le_refl _, hne⟩).1
    have k2 := ((hiff (bndR t out c g).2).1 ⟨hne, Int.le_refl _⟩).1
    exact ⟨Int.le_trans hi.lo k1.1, hne, Int.le_trans k2.2 hi.hi⟩
end Go.Proofs.Ytjaoflfophcibaa
