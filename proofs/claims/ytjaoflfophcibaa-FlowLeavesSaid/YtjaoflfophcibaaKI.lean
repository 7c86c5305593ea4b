/- The reference's sets: those who come to a cell; how far sizes go. -/
import Derived.Test.YtjaoflfophcibaaKH
namespace Go.Proofs.Ytjaoflfophcibaa
open Go.RowKit Go.Shelf

theorem plus_zero (a : R2) : plusR (0, 0) a = a := by unfold plusR; simp
theorem mv_eq (a : R2) : (a.1, a.2) = a := rfl
theorem arr_set {t : Tb} {c g : Nat} {u : Nat → R2} (hng : 2 ≤ t.ng) (hg : g < t.ng) (hb : g = 0 → InB (t.b c)) (hr : ∀ i, i < t.ng + 1 → 0 ≤ (t.r i).1 ∧ (t.r i).1 ≤ (t.r i).2 ∧ (t.r i).2 ≤ 1000) (hn : (t.n g).1 ≤ (t.n g).2) (hu : ∀ q, q < t.ng → emptyR (u q) = true ∨ InB (u q)) (hsum : 0 < g → g = t.last → (u (g - 1)).2 + (u g).2 ≤ 2999)
    {U1 U2 s0 l2 s1 s : Nat → Bool} (h1 : 0 < g → IvS U1 (u (g - 1))) (h2 : g = t.last → IvS U2 (u g))
    (k0 : g = 0 → ∀ i, i < 3000 → (s0 i = true ↔ LivP (fillP (t.b c).1 (t.b c).2) (t.r 0) 3000 i)) (k0' : 0 < g → ∀ i, i < 3000 → (s0 i = true ↔ LivP U1 (t.r g) 3000 i))
    (k1 : g = t.last → (∀ i, i < 3000 → (l2 i = true ↔ LivP U2 (t.r (g + 1)) 3000 i)) ∧ ∀ i, i < 3000 → (s1 i = true ↔ SumP s0 l2 1 3000 i)) (k1' : g ≠ t.last → s1 = s0)
    (k2 : ∀ i, i < 3000 → (s i = true ↔ MovP s1 (t.n g).1 (t.n g).2 3000 i)) : IvS s (t.arr c g u) := by
  unfold Tb.arr
  simp only
  by_cases e0 : g = 0
  · subst e0
    have e1 : ¬ 0 = t.last := by unfold Tb.last; omega
    obtain ⟨r1, r2, r3⟩ := hr 0 (by omega)
    have hs0 := (IvS.fill (t.b c).1 (t.b c).2).living (hb rfl) r1 r2 r3 (k0 rfl)
    have hin := (inB_living (hb rfl) r1 r2 r3).1
    have hs := hs0.moved hin hn (by rw [← k1' e1]; exact k2)
    rw [if_pos rfl, if_neg (Nat.lt_irrefl 0), if_neg e1, show (decide (0 < 0) && emptyR (u (0 - 1)) || decide (0 = t.last) && emptyR (u 0)) = false by rw [decide_eq_false e1]; simp]
    simp only [Bool.false_eq_true, if_false]
    exact hs.cut
  · have hg0 : 0 < g := by omega
    obtain ⟨r1, r2, r3⟩ := hr g (by omega)
    obtain ⟨r4, r5, r6⟩ := hr (g + 1) (by omega)
    have hU1 := h1 hg0
    rw [if_neg e0, if_pos hg0, plus_zero]
    rcases hu (g - 1) (by omega) with he | hi
    · have hs0 := liv_none (hU1.empty he) (k0' hg0)
      have hs1 : ∀ i, i < 3000 → s1 i = false := by
        by_cases e1 : g = t.last
        · exact sum_none (.inl hs0) (k1 e1).2
        · rw [k1' e1]; exact hs0
      have hs := mov_none hs1 k2
      rw [show (decide (0 < g) && emptyR (u (g - 1)) || decide (g = t.last) && emptyR (u g)) = true by rw [decide_eq_true hg0, he]; rfl]
      exact IvS.none hs rfl
    · have hs0 := hU1.living hi r1 r2 r3 (k0' hg0)
      obtain ⟨hin, hle⟩ := inB_living hi r1 r2 r3
      have hne : emptyR (u (g - 1)) = false := decide_eq_false (by have := hi.ne; omega)
      by_cases e1 : g = t.last
      · rw [if_pos e1]
        rcases hu g hg with he2 | hi2
        · have hl2 := liv_none ((h2 e1).empty he2) (k1 e1).1
          have hs := mov_none (sum_none (.inr hl2) (k1 e1).2) k2
          rw [show (decide (0 < g) && emptyR (u (g - 1)) || decide (g = t.last) && emptyR (u g)) = true by rw [decide_eq_true e1, he2]; simp]
          exact IvS.none hs rfl
        · have hl2 := (h2 e1).living hi2 r4 r5 r6 (k1 e1).1
          obtain ⟨hin2, hle2⟩ := inB_living hi2 r4 r5 r6
          have hne2 : emptyR (u g) = false := decide_eq_false (by have := hi2.ne; omega)
          have hs1 := hs0.add hl2 hin hin2 (k1 e1).2
          have hin3 : InB (plusR (livingR (t.r g) (u (g - 1))) (livingR (t.r (g + 1)) (u g))) := by
            have a1 := hin.lo; have a2 := hin.ne; have b1 := hin2.lo; have b2 := hin2.ne
            have := hsum hg0 e1
            exact ⟨by unfold plusR; simp only; omega, by unfold plusR; simp only; omega, by unfold plusR; simp only; omega⟩
          have hs := hs1.moved hin3 hn k2
          rw [show (decide (0 < g) && emptyR (u (g - 1)) || decide (g = t.last) && emptyR (u g)) = false by rw [hne, hne2]; simp]
          simp only [Bool.false_eq_true, if_false]
          exact hs.cut
      · rw [if_neg e1]
        have hs := hs0.moved hin hn (by rw [← k1' e1]; exact k2)
        rw [show (decide (0 < g) && emptyR (u (g - 1)) || decide (g = t.last) && emptyR (u g)) = false by rw [hne, decide_eq_false e1]; simp]
        simp only [Bool.false_eq_true, if_false]
        exact hs.cut
/-- How far sizes go. -/
theorem bf_hi {t : Tb} {nb : Nat} {out : Nat → Nat → Bool} (ht : Okw t nb) (ho : ∀ c g, c < t.nc → g < t.ng → 0 ≤ (t.own out c g).1) : ∀ c : Nat, c ≤ nb → c ≤ 3 → c ≤ t.nc → ∀ g, g < t.ng → (t.before out c g).2 ≤ 500 + 650 * (c : Int) ∧ (g ≠ t.last → (t.before out c g).2 ≤ 500 + 50 * (c : Int)) ∧ 0 ≤ (t.before out c g).1
  | 0, _, _, _, g, _ => ⟨by show (500 : Int) ≤ _; omega, fun _ => by show (500 : Int) ≤ _; omega, Int.le_refl _⟩
  | c + 1, hc, h3, hn, g, hg => by
    have ih := bf_hi ht ho c (by omega) (by omega) (by omega)
    have hng := ht.ng2
    obtain ⟨n1, n2, n3⟩ := ht.n g hg
    have hu : ∀ q, q < t.ng → 0 ≤ (t.up out c q).1 ∧ (t.up out c q).2 ≤ (t.before out c q).2 := fun q hq => by
      have := ho c q (by omega) hq
      unfold Tb.up meetR
      simp only
      omega
    have hl : ∀ i q, i < t.ng + 1 → q < t.ng → emptyR (t.up out c q) = false → (livingR (t.r i) (t.up out c q)).2 ≤ (t.before out c q).2 ∧ 0 ≤ (livingR (t.r i) (t.up out c q)).1 := fun i q hi hq he => by
      obtain ⟨r1, r2, r3⟩ := ht.r i hi
      obtain ⟨a1, a2⟩ := hu q hq
      have hne := of_decide_eq_false he
      have d1 := deadR_le (r := t.r i) (n := (t.up out c q).1) r1 r2 r3 a1
      have d2 := deadR_le (r := t.r i) (n := (t.up out c q).2) r1 r2 r3 (by omega)
      unfold livingR fewestR mostR
      simp only
      omega
    show (t.arr c g (t.up out c)).2 ≤ _ ∧ (g ≠ t.last → (t.arr c g (t.up out c)).2 ≤ _) ∧ 0 ≤ (t.arr c g (t.up out c)).1
    unfold Tb.arr
    simp only
    by_cases hE : (decide (0 < g) && emptyR (t.up out c (g - 1)) || decide (g = t.last) && emptyR (t.up out c g)) = true
    · rw [if_pos hE]
      exact ⟨by show (0 : Int) ≤ _; omega, fun _ => by show (0 : Int) ≤ _; omega, by decide⟩
    · rw [if_neg hE]
      simp only [Bool.or_eq_true, Bool.and_eq_true, decide_eq_true_eq, not_or, not_and, Bool.not_eq_true] at hE
      obtain ⟨E1, E2⟩ := hE
      by_cases e0 : g = 0
      · subst e0
        have e1 : ¬ 0 = t.last := by unfold Tb.last; omega
        rw [if_pos rfl, if_neg (Nat.lt_irrefl 0), if_neg e1]
        obtain ⟨b1, b2, b3⟩ := ht.b c (by omega)
        obtain ⟨r1, r2, r3⟩ := ht.r 0 (by omega)
        have d2 := deadR_le (r := t.r 0) (n := (t.b c).2) r1 r2 r3 (by omega)
        unfold meetR plusR livingR fewestR mostR
        simp only
        refine ⟨?_, fun _ => ?_, ?_⟩ <;> omega
      · have hg0 : 0 < g := by omega
        rw [if_neg e0, if_pos hg0, plus_zero]
        have l1 := hl g (g - 1) (by omega) (by omega) (E1 hg0)
        have i1 := (ih (g - 1) (by omega)).2.1 (by unfold Tb.last; omega)
        by_cases e1 : g = t.last
        · rw [if_pos e1]
          have l2 := hl (g + 1) g (by omega) hg (E2 e1)
          have i2 := (ih g hg).1
          unfold meetR plusR
          simp only
          refine ⟨?_, fun h => absurd e1 h, ?_⟩ <;> omega
        · rw [if_neg e1]
          unfold meetR plusR
          simp only
          refine ⟨?_, fun _ => ?_, ?_⟩ <;> omega
theorem up_inB {t : Tb} {nb : Nat} {out : Nat → Nat → Bool} (ht : Okw t nb) (ho : ∀ c g, c < t.nc → g < t.ng → 0 ≤ (t.own out c g).1) {c : Nat} (hc : c ≤ nb) (h3 : c ≤ 3) (hn : c < t.nc) : ∀ q, q < t.ng → emptyR (t.up out c q) = true ∨ InB (t.up out c q) := fun q hq => by
  have h := bf_hi ht ho c hc h3 (by omega) q hq
  have h2 := ho c q hn hq
  by_cases he : emptyR (t.up out c q) = true
  · exact .inl he
  · have hne := of_decide_eq_false (Bool.eq_false_iff.2 he)
    refine .inr ⟨?_, by omega, ?_⟩ <;> unfold Tb.up meetR <;> simp only <;> omega
end Go.Proofs.Ytjaoflfophcibaa
