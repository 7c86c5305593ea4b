/- The further census counted as projected: all counts agree, and the bounds of the earlier ones are the same. -/
import Derived.Test.YtjaoflfophcibaaIA
namespace Go.Proofs.Ytjaoflfophcibaa
open Go.RowKit Go.Shelf

/-- With births behind the last census. -/
def Tb.born (y : Tb) (b : R2) : Tb := { y with b := fun c => if c = y.nb then b else y.b c }
/-- With a further census, counted as projected. -/
def Tb.grow (y : Tb) : Tb := { y with nc := y.nc + 1, nb := y.nb + 1, rl := fun c => if c = y.nc then y.ng else y.rl c, ct := fun c g => if c = y.nc then y.before off0 y.nc g else y.ct c g }
theorem before_b {t : Tb} {b' : Nat → R2} {out : Nat → Nat → Bool} {k : Nat} (h : ∀ c, c < k → b' c = t.b c) : ∀ c, c ≤ k → ∀ g, Tb.before { t with b := b' } out c g = t.before out c g
  | 0, _, _ => rfl
  | c + 1, hc, g => by
    have hu : (fun q => meetR (Tb.before { t with b := b' } out c q) (Tb.own { t with b := b' } out c q)) = fun q => meetR (Tb.before t out c q) (Tb.own t out c q) := by
      funext q
      rw [before_b h c (by omega) q]
      rfl
    show Tb.arr { t with b := b' } c g (fun q => meetR (Tb.before { t with b := b' } out c q) (Tb.own { t with b := b' } out c q)) = t.arr c g (fun q => meetR (Tb.before t out c q) (Tb.own t out c q))
    rw [hu]
    unfold Tb.arr
    show _ = _
    simp only
    rw [h c (by omega)]
    rfl
theorem born_agree {y : Tb} {b : R2} (hy : Okt y) : (y.born b).agree off0 = y.agree off0 := by
  have h1 := hy.nb
  have hu : ∀ g, Tb.up (y.born b) off0 (y.nc - 1) g = y.up off0 (y.nc - 1) g := fun g => by
    unfold Tb.up
    rw [show Tb.before (y.born b) off0 (y.nc - 1) g = y.before off0 (y.nc - 1) g from before_b (k := y.nb) (fun c hc => if_neg (by omega)) _ (by omega) g]
    rfl
  show allB (fun g => !emptyR (Tb.up (y.born b) off0 (y.nc - 1) g)) y.ng = allB (fun g => !emptyR (y.up off0 (y.nc - 1) g)) y.ng
  congr 1
  funext g
  rw [hu g]
theorem born_ok {y : Tb} {b : R2} (hy : Okt y) : Okt (y.born b) :=
  ⟨hy.nc1, hy.nc4, hy.ng2, hy.ng4, hy.nb, hy.nr, hy.nn, hy.rl, hy.ct, fun c hc => by
    have h1 : c < y.nb := hc
    have h := hy.b c h1
    show 0 ≤ (if c = y.nb then b else y.b c).1 ∧ (if c = y.nb then b else y.b c).1 ≤ (if c = y.nb then b else y.b c).2 ∧ (if c = y.nb then b else y.b c).2 ≤ 500
    rw [if_neg (by omega)]; exact h, hy.r, hy.n⟩
section
variable {y : Tb}
theorem grow_ng (hy : Okt y) : y.grow.ng = y.ng := by
  have := hy.nc1
  show (if y.nc + 1 = 0 then 0 else if 0 = y.nc then y.ng else y.rl 0) = y.ng
  rw [if_neg (by omega), if_neg (by omega)]
  unfold Tb.ng
  rw [if_neg (by omega)]
theorem grow_last (hy : Okt y) : y.grow.last = y.last := by unfold Tb.last; rw [grow_ng hy]
theorem grow_arr (hy : Okt y) (c g : Nat) (u : Nat → R2) : y.grow.arr c g u = y.arr c g u := by
  unfold Tb.arr
  simp only
  rw [grow_last hy]
  rfl
theorem grow_own {c : Nat} (hc : c < y.nc) (g : Nat) : y.grow.own off0 c g = y.own off0 c g := by
  unfold Tb.own
  show (if off0 c g = true then _ else if c = y.nc then y.before off0 y.nc g else y.ct c g) = _
  rw [if_neg (show ¬ c = y.nc by omega)]
theorem grow_before (hy : Okt y) : ∀ c, c ≤ y.nc → ∀ g, y.grow.before off0 c g = y.before off0 c g
  | 0, _, _ => rfl
  | c + 1, hc, g => by
    have hu : (fun q => meetR (y.grow.before off0 c q) (y.grow.own off0 c q)) = fun q => meetR (y.before off0 c q) (y.own off0 c q) := by
      funext q
      rw [grow_before hy c (by omega) q, grow_own (by omega) q]
    show y.grow.arr c g (fun q => meetR (y.grow.before off0 c q) (y.grow.own off0 c q)) = y.arr c g (fun q => meetR (y.before off0 c q) (y.own off0 c q))
    rw [hu, grow_arr hy]
theorem grow_up (hy : Okt y) {c : Nat} (hc : c < y.nc) (g : Nat) : y.grow.up off0 c g = y.up off0 c g := by
  unfold Tb.up
  rw [grow_before hy c (by omega) g, grow_own hc g]
theorem meet_self (a : R2) : meetR a a = a := by unfold meetR; rw [Int.max_self, Int.min_self]
theorem grow_top (hy : Okt y) (g : Nat) : y.grow.up off0 y.nc g = y.before off0 y.nc g := by
  unfold Tb.up
  rw [grow_before hy _ (Nat.le_refl _) g]
  have : y.grow.own off0 y.nc g = y.before off0 y.nc g := by
    unfold Tb.own
    rw [if_neg (show ¬ off0 _ _ = true from Bool.false_ne_true)]
    exact if_pos rfl
  rw [this, meet_self]
theorem up_500 (hy : Okt y) (hu : Ups y off0) {c g : Nat} (hc : c < y.nc) (hg : g < y.ng) : 0 ≤ (y.up off0 c g).1 ∧ (y.up off0 c g).1 ≤ (y.up off0 c g).2 ∧ (y.up off0 c g).2 ≤ 500 := by
  refine ⟨hu.z c g hc hg, ne_of (hu.ne c g hc hg), ?_⟩
  have h := hy.ct c g hc hg
  have h2 : (y.up off0 c g).2 ≤ (y.own off0 c g).2 := by unfold Tb.up meetR; simp only; omega
  have h3 : y.own off0 c g = y.ct c g := if_neg Bool.false_ne_true
  rw [h3] at h2
  omega
theorem living_500 {r s : R2} (hr : 0 ≤ r.1 ∧ r.1 ≤ r.2 ∧ r.2 ≤ 1000) (hs : 0 ≤ s.1 ∧ s.1 ≤ s.2 ∧ s.2 ≤ 500) : (livingR r s).1 ≤ (livingR r s).2 ∧ (livingR r s).1 ≤ 500 ∧ 0 ≤ (livingR r s).2 ∧ (livingR r s).2 ≤ 500 := by
  have h1 := few_mono (r := r) hr.2.2 hs.2.1
  have h2 := few_le_most (r := r) (a := s.2) hr.2.1 (by omega)
  have h3 := deadR_le (n := s.2) hr.1 hr.2.1 hr.2.2 (by omega)
  have h4 := deadR_le (n := s.1) hr.1 hr.2.1 hr.2.2 (by omega)
  unfold livingR
  unfold fewestR mostR at *
  simp only
  omega
theorem proj_ne (hy : Okt y) (hb : 0 ≤ (y.b y.nb).1 ∧ (y.b y.nb).1 ≤ (y.b y.nb).2 ∧ (y.b y.nb).2 ≤ 500) (hu : Ups y off0) (hn : ∀ g, g < y.ng → 0 ≤ (y.n g).2) {g : Nat} (hg : g < y.ng) : emptyR (y.before off0 y.nc g) = false := by
  have h1 := hy.nc1; have h2 := hy.nb; have hng := hy.ng2; have hnr := hy.nr; have hnn := hy.nn
  obtain ⟨c, hc⟩ : ∃ c, y.nc = c + 1 := ⟨y.nc - 1, by omega⟩
  rw [hc]
  show emptyR (y.arr c g (y.up off0 c)) = false
  have h5 : ∀ q, q < y.ng → 0 ≤ (y.up off0 c q).1 ∧ (y.up off0 c q).1 ≤ (y.up off0 c q).2 ∧ (y.up off0 c q).2 ≤ 500 := fun q hq => up_500 hy hu (by omega) hq
  have e : ∀ q, q < y.ng → emptyR (y.up off0 c q) = false := fun q hq => hu.ne c q (by omega) hq
  have hN := hy.n g (by omega)
  have hN2 := hn g hg
  have hbb : y.b c = y.b y.nb := by rw [show c = y.nb by omega]
  have hl0 := living_500 (hy.r 0 (by omega)) hb
  have hl : ∀ i q, i < y.ng + 1 → q < y.ng → (livingR (y.r i) (y.up off0 c q)).1 ≤ (livingR (y.r i) (y.up off0 c q)).2 ∧ (livingR (y.r i) (y.up off0 c q)).1 ≤ 500 ∧ 0 ≤ (livingR (y.r i) (y.up off0 c q)).2 ∧ (livingR (y.r i) (y.up off0 c q)).2 ≤ 500 := fun i q hi hq => living_500 (hy.r i (by omega)) (h5 q hq)
  unfold Tb.arr
  simp only
  rw [show (decide (0 < g) && emptyR (y.up off0 c (g - 1))) = false by rw [e (g - 1) (by omega)]; simp, show (decide (g = y.last) && emptyR (y.up off0 c g)) = false by rw [e g hg]; simp]
  simp only [Bool.or_self, Bool.false_eq_true, if_false]
  have h6 := hl (g + 1) g (by omega) hg
  have h7 := hl g (g - 1) (by omega) (by omega)
  rw [hbb]
  by_cases e0 : g = 0
  · rw [if_pos e0, if_neg (show ¬ 0 < g by omega), if_neg (show ¬ g = y.last by unfold Tb.last; omega)]
    unfold emptyR meetR plusR
    refine decide_eq_false ?_
    simp only
    omega
  · rw [if_neg e0, if_pos (show 0 < g by omega)]
    by_cases e1 : g = y.last
    · rw [if_pos e1]
      unfold emptyR meetR plusR
      refine decide_eq_false ?_
      simp only
      omega
    · rw [if_neg e1]
      unfold emptyR meetR plusR
      refine decide_eq_false ?_
      simp only
      omega
theorem grow_nx (hy : Okt y) (g : Nat) : y.grow.nx g = y.nx g := nx_eq (grow_ng hy) g
theorem grow_kR (hy : Okt y) (u : Nat → R2) (g : Nat) : kR y.grow u g = kR y u g := by
  unfold kR
  rw [grow_ng hy, grow_nx hy]
  rfl
theorem kR_500 (hy : Okt y) (hn : ∀ g, g < y.ng → 0 ≤ (y.n g).2) {g : Nat} (hg : g < y.ng) {u : Nat → R2} (hu : ∀ q, q < y.ng → 0 ≤ (u q).1 ∧ (u q).1 ≤ (u q).2 ∧ (u q).2 ≤ 500) : (kR y u g).1 ≤ (kR y u g).2 ∧ 0 ≤ (kR y u g).2 ∧ (kR y u g).2 ≤ 600 := by
  have hng := hy.ng2; have hnr := hy.nr; have hnn := hy.nn
  have hnx : y.nx g < y.ng := by unfold Tb.nx Tb.last; omega
  have hN := hy.n (y.nx g) (by omega)
  have hN2 := hn _ hnx
  unfold kR
  by_cases e : g + 1 < y.ng - 1
  · rw [if_pos e]; omega
  · rw [if_neg e]
    obtain ⟨q, hq, hql⟩ : ∃ q, (if g = y.ng - 1 then y.ng - 2 else y.ng - 1) = q ∧ q < y.ng := ⟨_, rfl, by split <;> omega⟩
    rw [hq]
    have := living_500 (hy.r (q + 1) (by omega)) (hu q hql)
    unfold plusR
    simp only
    omega
theorem grow_rch (hy : Okt y) (hu : Ups y off0) (hn : ∀ g, g < y.ng → 0 ≤ (y.n g).2) : ∀ k c g n, c + k + 1 = y.nc → g < y.ng → inR n (y.up off0 c g) → (Rch y.grow off0 (k + 1) c g n ↔ Rch y off0 k c g n)
  | 0, c, g, n, hc, hg, hn' => by
    refine ⟨fun _ => trivial, fun _ => ?_⟩
    have hnr := hy.nr
    have h5 : ∀ q, q < y.ng → 0 ≤ (y.up off0 c q).1 ∧ (y.up off0 c q).1 ≤ (y.up off0 c q).2 ∧ (y.up off0 c q).2 ≤ 500 := fun q hq => up_500 hy hu (by omega) hq
    have hk := kR_500 hy hn hg h5
    have hr := hy.r (g + 1) (by omega)
    have hg5 := h5 g hg
    have e1 := few_mono (r := y.r (g + 1)) hr.2.2 hn'.1
    have e2 := most_mono (r := y.r (g + 1)) (by omega) hn'.2
    have e3 := few_le_most (r := y.r (g + 1)) (a := n) hr.2.1 (by have := hn'.1; omega)
    have e4 := deadR_le (n := n) hr.1 hr.2.1 hr.2.2 (by have := hn'.1; omega)
    have e5 := hn'.1; have e6 := hn'.2
    have hup : y.grow.up off0 c = y.up off0 c := funext fun q => grow_up hy (by omega) q
    have ho : y.grow.own off0 (c + 1) (y.nx g) = y.arr c (y.nx g) (y.up off0 c) := by
      unfold Tb.own
      rw [if_neg (show ¬ off0 _ _ = true from Bool.false_ne_true)]
      show (if c + 1 = y.nc then y.before off0 y.nc (y.nx g) else y.ct (c + 1) (y.nx g)) = _
      rw [if_pos (by omega), show y.nc = c + 1 by omega]
      rfl
    have hm : mostR (y.r (g + 1)) n = n - (deadR (y.r (g + 1)) n).1 := rfl
    refine ⟨mostR (y.r (g + 1)) n + (kR y (y.up off0 c) g).2, ?_, ?_, by omega, by omega, ?_, trivial⟩
    · rw [hup, grow_kR hy]
      show fewestR (y.r (g + 1)) n + _ ≤ _
      omega
    · rw [hup, grow_kR hy]
      exact Int.le_refl _
    · rw [grow_nx hy, ho, arr_k hy.ng2 hg (fun q hq => hu.ne c q (by omega) hq)]
      refine inR_meet.2 ⟨?_, by unfold inR; simp only; omega⟩
      unfold inR plusR livingR
      simp only
      omega
  | k + 1, c, g, n, hc, hg, hn' => by
    have hnx : y.nx g < y.ng := by have := hy.ng2; unfold Tb.nx Tb.last; omega
    have hup : y.grow.up off0 c = y.up off0 c := funext fun q => grow_up hy (by omega) q
    constructor
    · rintro ⟨m, h1, h2, h3, h4, h5, h6⟩
      rw [hup, grow_kR hy] at h1 h2
      rw [grow_nx hy, grow_own (by omega)] at h5
      rw [grow_nx hy] at h6
      exact ⟨m, h1, h2, h3, h4, h5, (grow_rch hy hu hn k (c + 1) (y.nx g) m (by omega) hnx (up_next hy.w hg (fun q hq => hu.ne c q (by omega) hq) hn' h1 h2 h3 h4 h5)).1 h6⟩
    · rintro ⟨m, h1, h2, h3, h4, h5, h6⟩
      refine ⟨m, ?_, ?_, h3, h4, ?_, ?_⟩
      · rw [hup, grow_kR hy]; exact h1
      · rw [hup, grow_kR hy]; exact h2
      · rw [grow_nx hy, grow_own (by omega)]; exact h5
      · rw [grow_nx hy]
        exact (grow_rch hy hu hn k (c + 1) (y.nx g) m (by omega) hnx (up_next hy.w hg (fun q hq => hu.ne c q (by omega) hq) hn' h1 h2 h3 h4 h5)).2 h6
/-- All counts agree, and the bounds of the earlier censuses are the same; those of the further one are as projected. -/
theorem further (hy : Okt y) (hx : Okt y.grow) (hb : 0 ≤ (y.b y.nb).1 ∧ (y.b y.nb).1 ≤ (y.b y.nb).2 ∧ (y.b y.nb).2 ≤ 500) (ha : y.agree off0 = true) (hn : ∀ g, g < y.ng → 0 ≤ (y.n g).2) :
    y.grow.agree off0 = true ∧ (∀ c g, c < y.nc → g < y.ng → bndR y.grow off0 c g = bndR y off0 c g) ∧ ∀ g, g < y.ng → bndR y.grow off0 y.nc g = y.before off0 y.nc g := by
  have hu := ups_of hy ha
  have hga : y.grow.agree off0 = true := agree_of_ne (fun q hq => by
    rw [grow_ng hy] at hq
    show emptyR (y.grow.up off0 (y.nc + 1 - 1) q) = false
    rw [Nat.add_sub_cancel, grow_top hy]
    exact proj_ne hy hb hu hn hq)
  have hgu := ups_of hx hga
  refine ⟨hga, fun c g hc hg => ?_, fun g hg => ?_⟩
  · have hg' : g < y.grow.ng := by rw [grow_ng hy]; exact hg
    have hmem : ∀ n, inR n (bndR y.grow off0 c g) ↔ inR n (bndR y off0 c g) := fun n => by
      have h1 := aft_iff hx.w hgu (y.grow.nc - 1 - c) c g (by show c + (y.nc + 1 - 1 - c) < y.nc + 1; omega) hg' n
      have h2 := aft_iff hy.w hu (y.nc - 1 - c) c g (by omega) hg n
      have e : y.grow.nc - 1 - c = (y.nc - 1 - c) + 1 := by show y.nc + 1 - 1 - c = _; omega
      unfold bndR
      rw [h1, h2, grow_up hy hc, e]
      constructor
      · rintro ⟨k1, k2⟩; exact ⟨k1, (grow_rch hy hu hn _ c g n (by omega) hg k1).1 k2⟩
      · rintro ⟨k1, k2⟩; exact ⟨k1, (grow_rch hy hu hn _ c g n (by omega) hg k1).2 k2⟩
    obtain ⟨n, h1, h2⟩ := rch_ex hx.w hgu (y.grow.nc - 1 - c) c g (by show c + (y.nc + 1 - 1 - c) < y.nc + 1; omega) hg'
    have h3 := (aft_iff hx.w hgu (y.grow.nc - 1 - c) c g (by show c + (y.nc + 1 - 1 - c) < y.nc + 1; omega) hg' n).2 ⟨h1, h2⟩
    exact range_ext hmem (Int.le_trans h3.1 h3.2)
  · unfold bndR
    rw [show y.grow.nc - 1 - y.nc = 0 by show y.nc + 1 - 1 - y.nc = 0; omega, grow_top hy]
    rfl
end
end Go.Proofs.Ytjaoflfophcibaa
