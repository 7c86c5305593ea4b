/- A table with births behind the last census. -/
import Derived.Test.YtjaoflfophcibaaPK
namespace Go.Proofs.Ytjaoflfophcibaa
open Go.RowKit Go.Shelf

/-- With births behind the last census. -/
def Tb.born (y : Tb) (b : R2) : Tb := { y with b := fun c => if c = y.nb then b else y.b c }
theorem before_b {t : Tb} {b' : Nat → R2} {out : Nat → Nat → Bool} {k : Nat} (h : ∀ c, c < k → b' c = t.b c) : ∀ c, c ≤ k → ∀ g, Tb.before { t with b := b' } out c g = t.before out c g
  | 0, _, _ => rfl
  | c + 1, hc, g => by
    have hu : (fun q => meetR (Tb.before { t with b := b' } out c q) (Tb.own { t with b := b' } out c q)) = fun q => meetR (Tb.before t out c q) (Tb.own t out c q) := by
      funext q
      rw [before_b h c (by omega) q]
      rfl
    show Tb.arr { t with b := b' } c g (fun q => meetR (Tb.before { t with b := b' } out c q) (Tb.own { t with b := b' } out c q)) = t.arr c g (fun q => meetR (Tb.before t out c q) (Tb.own t out c q))
    rw [hu]
    unfold Tb.arr
    show _ = _
    simp only
    rw [h c (by omega)]
    rfl
theorem born_agree {y : Tb} {b : R2} (hy : Okt y) : (y.born b).agree off0 = y.agree off0 := by
  have h1 := hy.nb
  have hu : ∀ g, Tb.up (y.born b) off0 (y.nc - 1) g = y.up off0 (y.nc - 1) g := fun g => by
    unfold Tb.up
    rw [show Tb.before (y.born b) off0 (y.nc - 1) g = y.before off0 (y.nc - 1) g from before_b (k := y.nb) (fun c hc => if_neg (by omega)) _ (by omega) g]
    rfl
  show allB (fun g => !emptyR (Tb.up (y.born b) off0 (y.nc - 1) g)) y.ng = allB (fun g => !emptyR (y.up off0 (y.nc - 1) g)) y.ng
  congr 1
  funext g
  rw [hu g]
theorem born_ok {y : Tb} {b : R2} (hy : Okt y) : Okt (y.born b) :=
  ⟨hy.nc1, hy.nc4, hy.ng2, hy.ng4, hy.nb, hy.nr, hy.nn, hy.rl, hy.ct, fun c hc => by
    have h1 : c < y.nb := hc
    have h := hy.b c h1
    show 0 ≤ (if c = y.nb then b else y.b c).1 ∧ (if c = y.nb then b else y.b c).1 ≤ (if c = y.nb then b else y.b c).2 ∧ (if c = y.nb then b else y.b c).2 ≤ 500
    rw [if_neg (by omega)]; exact h, hy.r, hy.n⟩
end Go.Proofs.Ytjaoflfophcibaa
