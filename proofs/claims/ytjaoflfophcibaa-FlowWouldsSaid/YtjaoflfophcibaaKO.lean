/- FlowProjects: the ends of a set that is a range; the next table. -/
import Derived.Test.YtjaoflfophcibaaKN
import Derived.Test.YtjaoflfophcibaaJN
namespace Go.Proofs.Ytjaoflfophcibaa
open Go.RowKit Go.Shelf

theorem ends_eq {p : Nat → Bool} {r : R2} {lo hi : Int} (h : EndP p 3000 lo hi) (hp : IvS p r) (hr : InB r) : lo = r.1 ∧ hi = r.2 := by
  have h1 := hr.lo; have h2 := hr.ne; have h3 := hr.hi
  obtain ⟨a, ha⟩ := Int.eq_ofNat_of_zero_le h1
  obtain ⟨b, hb⟩ := Int.eq_ofNat_of_zero_le (show 0 ≤ r.2 by omega)
  have hpa := (hp a (by omega)).2 ⟨by omega, by omega⟩
  have hpb := (hp b (by omega)).2 ⟨by omega, by omega⟩
  rcases h with ⟨_, _, h⟩ | ⟨x, y, rfl, rfl, hxy, hy, hpx, hpy, h⟩
  · rw [h a (by omega)] at hpa; cases hpa
  · have k1 := h a (by omega) hpa
    have k2 := h b (by omega) hpb
    have k3 := (hp x (by omega)).1 hpx
    have k4 := (hp y (by omega)).1 hpy
    unfold inR at k3 k4
    exact ⟨by omega, by omega⟩
/-- The table with births behind the last census, as the law makes it. -/
def Tb.next (t : Tb) (b : R2) : Tb := { t.born b with nb := t.nb + 1 }
theorem next_before (t : Tb) (b : R2) (out : Nat → Nat → Bool) : ∀ c g, (t.next b).before out c g = (t.born b).before out c g
  | 0, _ => rfl
  | c + 1, g => by
    have hu : (fun q => meetR ((t.next b).before out c q) ((t.next b).own out c q)) = fun q => meetR ((t.born b).before out c q) ((t.born b).own out c q) := by
      funext q
      rw [next_before t b out c q]
      rfl
    show (t.next b).arr c g (fun q => meetR ((t.next b).before out c q) ((t.next b).own out c q)) = (t.born b).arr c g (fun q => meetR ((t.born b).before out c q) ((t.born b).own out c q))
    rw [hu]
    rfl
theorem next_ok {t : Tb} {b : R2} (ht : Okt t) (hb : 0 ≤ b.1 ∧ b.1 ≤ b.2 ∧ b.2 ≤ 500) : OkR (t.next b) := by
  have h1 := ht.nb; have h2 := ht.nc4
  refine ⟨ht.ng2, ht.ng4, ht.nc1, ht.nc4, ?_, ?_, ht.nr, ht.nn, ht.rl, ht.ct, fun c hc => ?_, ht.r, ht.n⟩
  · show t.nc ≤ t.nb + 1 + 1; omega
  · show t.nb + 1 ≤ 4; omega
  · have hc' : c < t.nb + 1 := hc
    show 0 ≤ (if c = t.nb then b else t.b c).1 ∧ (if c = t.nb then b else t.b c).1 ≤ (if c = t.nb then b else t.b c).2 ∧ (if c = t.nb then b else t.b c).2 ≤ 500
    by_cases e : c = t.nb
    · rw [if_pos e]; exact hb
    · rw [if_neg e]; exact ht.b c (by omega)
end Go.Proofs.Ytjaoflfophcibaa
