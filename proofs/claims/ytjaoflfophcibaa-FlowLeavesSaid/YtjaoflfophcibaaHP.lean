/- Would, the plain law: the counts agree if and only if the range and the count have a number in common; the bounds are what they have in common. -/
import Derived.Test.YtjaoflfophcibaaHN
namespace Go.Proofs.Ytjaoflfophcibaa
open Go.RowKit Go.Shelf

theorem arr_congr {t : Tb} {c q : Nat} {up up' : Nat → R2} (h1 : 0 < q → up (q - 1) = up' (q - 1)) (h2 : q = t.last → up q = up' q) : t.arr c q up = t.arr c q up' := by
  unfold Tb.arr
  simp only
  by_cases e1 : 0 < q
  · rw [h1 e1]
    by_cases e2 : q = t.last
    · rw [h2 e2]
    · simp only [if_neg e2, decide_eq_false e2, Bool.false_and]
  · have d1 : decide (0 < q) = false := decide_eq_false e1
    simp only [if_neg e1, d1, Bool.false_and]
    by_cases e2 : q = t.last
    · rw [h2 e2]
    · simp only [if_neg e2, decide_eq_false e2, Bool.false_and]
theorem kR_congr {t : Tb} {g : Nat} {up up' : Nat → R2} (hng : 2 ≤ t.ng) (h : ∀ q, q < t.ng → q ≠ g → up q = up' q) : kR t up g = kR t up' g := by
  unfold kR
  split
  · rfl
  · rw [h _ (by split <;> omega) (by split <;> omega)]
/-- The way of a group. -/
def ch (t : Tb) (g : Nat) : Nat → Nat
  | 0 => g
  | j + 1 => t.nx (ch t g j)
theorem ch_lt {t : Tb} {g : Nat} (hng : 2 ≤ t.ng) (hg : g < t.ng) : ∀ j, ch t g j < t.ng
  | 0 => hg
  | j + 1 => by show t.nx (ch t g j) < t.ng; unfold Tb.nx Tb.last; omega
theorem own_same {t : Tb} {c g c' q : Nat} (h : ¬ (c' = c ∧ q = g)) : t.own off0 c' q = t.own (outC c g) c' q := by
  unfold Tb.own
  have e1 : off0 c' q = false := rfl
  have e2 : outC c g c' q = false := by unfold outC; simpa using h
  rw [e1, e2]
theorem before_same {t : Tb} {c g : Nat} : ∀ c', c' ≤ c → ∀ q, t.before off0 c' q = t.before (outC c g) c' q
  | 0, _, _ => rfl
  | c' + 1, h, q => by
    show t.arr c' q (t.up off0 c') = t.arr c' q (t.up (outC c g) c')
    have e : t.up off0 c' = t.up (outC c g) c' := by
      funext q'
      unfold Tb.up
      rw [before_same (c := c) (g := g) c' (by omega) q', own_same (c := c) (g := g) (by omega)]
    rw [e]
theorem up_same {t : Tb} {c g : Nat} (hng : 2 ≤ t.ng) : ∀ j q, q < t.ng → q ≠ ch t g j → t.up off0 (c + j) q = t.up (outC c g) (c + j) q
  | 0, q, _, hne => by
    unfold Tb.up
    rw [before_same (c := c) (g := g) (c + 0) (by omega) q, own_same (c := c) (g := g) (by show ¬ (c + 0 = c ∧ q = g); have : q ≠ g := hne; omega)]
  | j + 1, q, hq, hne => by
    have hne' : q ≠ t.nx (ch t g j) := hne
    have ih := up_same (t := t) (c := c) (g := g) hng j
    have e : t.before off0 (c + j + 1) q = t.before (outC c g) (c + j + 1) q := by
      show t.arr (c + j) q (t.up off0 (c + j)) = t.arr (c + j) q (t.up (outC c g) (c + j))
      refine arr_congr (fun h => ih (q - 1) (by omega) (fun e => hne' ?_)) (fun h => ih q hq (fun e => hne' ?_))
      · rw [← e]; unfold Tb.nx Tb.last; omega
      · rw [← e, h]; unfold Tb.nx Tb.last; omega
    show t.up off0 (c + j + 1) q = t.up (outC c g) (c + j + 1) q
    unfold Tb.up
    rw [e, own_same (c := c) (g := g) (by omega)]
theorem rch_same {t : Tb} {c g : Nat} (hng : 2 ≤ t.ng) : ∀ k j n, Rch t off0 k (c + j) (ch t g j) n ↔ Rch t (outC c g) k (c + j) (ch t g j) n
  | 0, _, _ => Iff.rfl
  | k + 1, j, n => by
    have ih := rch_same (t := t) (c := c) (g := g) hng k (j + 1)
    have e1 := kR_congr hng (up_same (t := t) (c := c) (g := g) hng j)
    have e2 : t.own off0 (c + j + 1) (ch t g (j + 1)) = t.own (outC c g) (c + j + 1) (ch t g (j + 1)) := own_same (c := c) (g := g) (by omega)
    constructor
    · rintro ⟨m, h1, h2, h3, h4, h5, h6⟩
      exact ⟨m, by rw [← e1]; exact h1, by rw [← e1]; exact h2, h3, h4, by have h := h5; rw [show t.nx (ch t g j) = ch t g (j + 1) from rfl, e2] at h; exact h, (ih m).1 h6⟩
    · rintro ⟨m, h1, h2, h3, h4, h5, h6⟩
      exact ⟨m, by rw [e1]; exact h1, by rw [e1]; exact h2, h3, h4, by have h := h5; rw [show t.nx (ch t g j) = ch t g (j + 1) from rfl, ← e2] at h; exact h, (ih m).2 h6⟩
theorem chain_ne {t : Tb} {nb c g : Nat} {out : Nat → Nat → Bool} (ht : Okw t nb) (hg : g < t.ng) (hoff : ∀ j q, c + j < t.nc → q < t.ng → q ≠ ch t g j → emptyR (t.up out (c + j) q) = false) :
    ∀ k j n, c + j + k < t.nc → inR n (t.up out (c + j) (ch t g j)) → Rch t out k (c + j) (ch t g j) n → emptyR (t.up out (c + j + k) (ch t g (j + k))) = false
  | 0, j, n, _, hn, _ => emptyR_false hn
  | k + 1, j, n, hk, hn, hr => by
    obtain ⟨m, h1, h2, h3, h4, h5, h6⟩ := hr
    have hlt := ch_lt ht.ng2 hg j
    have hm := up_next ht hlt (fun q hq => by
      by_cases e : q = ch t g j
      · rw [e]; exact emptyR_false hn
      · exact hoff j q (by omega) hq e) hn h1 h2 h3 h4 h5
    have := chain_ne ht hg hoff k (j + 1) m (by omega) hm h6
    rw [show c + j + (k + 1) = c + (j + 1) + k by omega, show j + (k + 1) = j + 1 + k by omega]
    exact this
theorem ups_of {t : Tb} {out : Nat → Nat → Bool} (ht : Okt t) (ha : t.agree out = true) : Ups t out :=
  ⟨fun c g hc hg => by
    have h := ht.ct c g hc hg
    have h2 : 0 ≤ (t.own out c g).1 := by unfold Tb.own; split <;> omega
    unfold Tb.up meetR
    simp only
    omega, fun c g hc hg => agree_ne ha (by have := ht.ng2; omega) c g hc hg⟩
theorem range_ext {a b : R2} (h : ∀ n, inR n a ↔ inR n b) (hne : a.1 ≤ a.2) : a = b := by
  have h1 := (h a.1).1 ⟨Int.le_refl _, hne⟩
  have h2 := (h a.2).1 ⟨hne, Int.le_refl _⟩
  have hb : b.1 ≤ b.2 := Int.le_trans h1.1 h1.2
  have h3 := (h b.1).2 ⟨Int.le_refl _, hb⟩
  have h4 := (h b.2).2 ⟨hb, Int.le_refl _⟩
  unfold inR at *
  exact Prod.ext (by omega) (by omega)
theorem agree_of_ne {t : Tb} {out : Nat → Nat → Bool} (h : ∀ q, q < t.ng → emptyR (t.up out (t.nc - 1) q) = false) : t.agree out = true := allB_true (fun q hq => by rw [h q hq]; rfl)
section
variable {t : Tb} {c g : Nat}
theorem up_split (ht : Okt t) (hc : c < t.nc) (hg : g < t.ng) (n : Int) : inR n (t.up off0 c g) ↔ inR n (t.up (outC c g) c g) ∧ inR n (t.ct c g) := by
  have h := ht.ct c g hc hg
  have e1 : t.own off0 c g = t.ct c g := rfl
  have e2 : t.own (outC c g) c g = (0, 1048576) := by unfold Tb.own; rw [if_pos (by unfold outC; simp)]
  unfold Tb.up
  rw [inR_meet, inR_meet, e1, e2, before_same (c := c) (g := g) c (Nat.le_refl _) g]
  unfold inR
  simp only
  constructor <;> intro h <;> omega
theorem would_none (ht : Okt t) (hc : c < t.nc) (hg : g < t.ng) (ha : t.agree (outC c g) = false) : t.agree off0 = false := by
  refine Bool.eq_false_iff.2 fun h0 => ?_
  have hu := ups_of ht h0
  obtain ⟨n, hn, hr⟩ := rch_ex ht.w hu (t.nc - 1 - c) c g (by omega) hg
  have hr' := (rch_same (c := c) (g := g) ht.ng2 (t.nc - 1 - c) 0 n).1 hr
  have hoff : ∀ j q, c + j < t.nc → q < t.ng → q ≠ ch t g j → emptyR (t.up (outC c g) (c + j) q) = false := fun j q hj hq hne => by rw [← up_same ht.ng2 j q hq hne]; exact hu.ne _ _ hj hq
  have hend : emptyR (t.up (outC c g) (c + 0 + (t.nc - 1 - c)) (ch t g (0 + (t.nc - 1 - c)))) = false := chain_ne ht.w hg hoff (t.nc - 1 - c) 0 n (by omega) ((up_split ht hc hg n).1 hn).1 hr'
  have : t.agree (outC c g) = true := agree_of_ne (fun q hq => by
    have e : t.nc - 1 = c + 0 + (t.nc - 1 - c) := by omega
    by_cases h : q = ch t g (0 + (t.nc - 1 - c))
    · rw [h]; rw [← e] at hend; exact hend
    · rw [Nat.zero_add] at h
      have := hoff (t.nc - 1 - c) q (by omega) hq h
      rw [show c + (t.nc - 1 - c) = t.nc - 1 by omega] at this
      exact this)
  rw [ha] at this
  cases this
theorem would_mem (ht : Okt t) (hc : c < t.nc) (hg : g < t.ng) (ha : t.agree (outC c g) = true) (n : Int) : inR n (bndR t (outC c g) c g) ↔ inR n (t.up (outC c g) c g) ∧ Rch t off0 (t.nc - 1 - c) c g n := by
  have h := aft_iff ht.w (ups_of ht ha) (t.nc - 1 - c) c g (by omega) hg n
  have hr := rch_same (t := t) (c := c) (g := g) ht.ng2 (t.nc - 1 - c) 0 n
  have hr' : Rch t off0 (t.nc - 1 - c) c g n ↔ Rch t (outC c g) (t.nc - 1 - c) c g n := hr
  rw [hr']
  exact h
theorem would_off (ht : Okt t) (hc : c < t.nc) (hg : g < t.ng) (ha : t.agree (outC c g) = true) (hl : min (bndR t (outC c g) c g).2 (t.ct c g).2 < max (bndR t (outC c g) c g).1 (t.ct c g).1) : t.agree off0 = false := by
  refine Bool.eq_false_iff.2 fun h0 => ?_
  obtain ⟨n, hn, hr⟩ := rch_ex ht.w (ups_of ht h0) (t.nc - 1 - c) c g (by omega) hg
  obtain ⟨h1, h2⟩ := (up_split ht hc hg n).1 hn
  have h3 := (would_mem ht hc hg ha n).2 ⟨h1, hr⟩
  unfold inR at h2 h3
  omega
theorem would_on (ht : Okt t) (hc : c < t.nc) (hg : g < t.ng) (ha : t.agree (outC c g) = true) (hl : max (bndR t (outC c g) c g).1 (t.ct c g).1 ≤ min (bndR t (outC c g) c g).2 (t.ct c g).2) :
    t.agree off0 = true ∧ bndR t off0 c g = (max (bndR t (outC c g) c g).1 (t.ct c g).1, min (bndR t (outC c g) c g).2 (t.ct c g).2) := by
  have hu := ups_of ht ha
  generalize hW : bndR t (outC c g) c g = W at *
  have hmem : ∀ n, inR n W ↔ inR n (t.up (outC c g) c g) ∧ Rch t off0 (t.nc - 1 - c) c g n := fun n => by rw [← hW]; exact would_mem ht hc hg ha n
  have hboth : ∀ n, inR n (t.up off0 c g) ∧ Rch t off0 (t.nc - 1 - c) c g n ↔ inR n (max W.1 (t.ct c g).1, min W.2 (t.ct c g).2) := fun n => by
    rw [up_split ht hc hg n]
    constructor
    · rintro ⟨⟨h1, h2⟩, h3⟩
      have h4 := (hmem n).2 ⟨h1, h3⟩
      unfold inR at *
      simp only
      omega
    · intro h
      have h4 : inR n W := by unfold inR at *; simp only at h; omega
      have h5 : inR n (t.ct c g) := by unfold inR at *; simp only at h; omega
      obtain ⟨h1, h3⟩ := (hmem n).1 h4
      exact ⟨⟨h1, h5⟩, h3⟩
  obtain ⟨hn, hr⟩ := (hboth (max W.1 (t.ct c g).1)).2 ⟨Int.le_refl _, hl⟩
  have hoff : ∀ j q, c + j < t.nc → q < t.ng → q ≠ ch t g j → emptyR (t.up off0 (c + j) q) = false := fun j q hj hq hne => by rw [up_same ht.ng2 j q hq hne]; exact hu.ne _ _ hj hq
  have hend : emptyR (t.up off0 (c + 0 + (t.nc - 1 - c)) (ch t g (0 + (t.nc - 1 - c)))) = false := chain_ne ht.w hg hoff (t.nc - 1 - c) 0 _ (by omega) hn hr
  have hagr : t.agree off0 = true := agree_of_ne (fun q hq => by
    have e : t.nc - 1 = c + 0 + (t.nc - 1 - c) := by omega
    by_cases h : q = ch t g (0 + (t.nc - 1 - c))
    · rw [h]; rw [← e] at hend; exact hend
    · rw [Nat.zero_add] at h
      have := hoff (t.nc - 1 - c) q (by omega) hq h
      rw [show c + (t.nc - 1 - c) = t.nc - 1 by omega] at this
      exact this)
  refine ⟨hagr, range_ext (fun n => ?_) ?_⟩
  · rw [← hboth n]
    exact aft_iff ht.w (ups_of ht hagr) (t.nc - 1 - c) c g (by omega) hg n
  · have h := (aft_iff ht.w (ups_of ht hagr) (t.nc - 1 - c) c g (by omega) hg (max W.1 (t.ct c g).1)).2 ⟨hn, hr⟩
    exact Int.le_trans h.1 h.2
end
end Go.Proofs.Ytjaoflfophcibaa
