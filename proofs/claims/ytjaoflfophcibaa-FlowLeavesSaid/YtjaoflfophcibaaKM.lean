/- The reference's Free and Up of every cell. -/
import Derived.Test.YtjaoflfophcibaaKL
namespace Go.Proofs.Ytjaoflfophcibaa
open Go.RowKit Go.Shelf

theorem up_le {t : Tb} {out : Nat → Nat → Bool} {c g : Nat} : (t.up out c g).2 ≤ (t.before out c g).2 := by
  unfold Tb.up meetR
  simp only
  omega
theorem rfree_all {t : Tb} (out : Nat → Nat → Bool) (ht : OkR t) (hs : t.small) : ∀ c, c < t.nc → FreeC t out c
  | 0, _ => free_zero t out
  | c + 1, hc => by
    have h4 := ht.nc4; have hb := ht.nbl
    refine free_succ ht hs (by omega) (by omega) (by omega) (fun g hg hl => ?_) (up_of_free ht (by omega) (rfree_all out ht hs c (by omega)))
    have hng := ht.ng2
    have hgl : g < t.ng := by unfold Tb.last at hl; omega
    have h1 := (bf_hi ht.w (ht.own out) c (by omega) (by omega) (by omega) (g - 1) (by omega)).2.1 (by omega)
    have h2 := (bf_hi ht.w (ht.own out) c (by omega) (by omega) (by omega) g hgl).1
    have h3 := up_le (t := t) (out := out) (c := c) (g := g - 1)
    have h5 := up_le (t := t) (out := out) (c := c) (g := g)
    omega
theorem rup_all {t : Tb} (out : Nat → Nat → Bool) (ht : OkR t) (hs : t.small) {c : Nat} (hc : c < t.nc) : UpC t out c := up_of_free ht hc (rfree_all out ht hs c hc)
/-- One census further, all counts used. -/
theorem free_next {t : Tb} (ht : OkR t) (hs : t.small) (hb : t.nc ≤ t.nb) : FreeC t off0 t.nc := by
  have h1 := ht.nc1; have h4 := ht.nc4; have hng := ht.ng2
  obtain ⟨c, hc⟩ : ∃ c, t.nc = c + 1 := ⟨t.nc - 1, by omega⟩
  rw [hc]
  refine free_succ ht hs (by omega) (by omega) (by omega) (fun g hg hl => ?_) (rup_all off0 ht hs (by omega))
  have hgl : g < t.ng := by unfold Tb.last at hl; omega
  have hu : ∀ q, q < t.ng → (t.up off0 c q).2 ≤ 500 := fun q hq => by
    have h := ht.ct c q (by omega) hq
    have e : t.own off0 c q = t.ct c q := if_neg Bool.false_ne_true
    unfold Tb.up
    rw [e]
    unfold meetR
    simp only
    omega
  have k1 := hu (g - 1) (by omega)
  have k2 := hu g hgl
  omega
end Go.Proofs.Ytjaoflfophcibaa
