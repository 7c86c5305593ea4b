/- FlowLeft: with, where one block of the caller's may change. -/
import Derived.Test.YtjaoflfophcibaaHU
namespace Go.Proofs.Ytjaoflfophcibaa
open Go.RowKit Go.Shelf

/-- The table lies apart from block J. -/
def Apt (J : Nat) (X : World) (v : WV) (t : Tb) : Prop := ∀ Z, Fr (fun k => k = J) X Z → WLi Z v t
theorem Apt.fr {J : Nat} {X Y : World} {v : WV} {t : Tb} (h : Apt J X v t) (hf : Fr (fun k => k = J) X Y) : Apt J Y v t := fun Z hz => h Z (hf.trans hz)
theorem Apt.wl {J : Nat} {X : World} {v : WV} {t : Tb} (h : Apt J X v t) : WLi X v t := h X (Fr.refl _ _)
theorem Apt.ne {J : Nat} {X : World} {v : WV} {t : Tb} (h : Apt J X v t) (hn : 0 < t.nc) {b o : Nat} (e : v.ca = some ⟨b, o, none⟩) : b ≠ J := by
  intro hb
  subst hb
  have h1 : RowsIn X (.slice v.ca t.nc v.cc) t.nc t.rl t.ct := h.wl.1
  obtain ⟨b', o', F, e', hlt, hF⟩ := rows_fn h1 hn
  rw [e] at e'
  cases e'
  have h2 : RowsIn (X.setCell ⟨b, o + 0, none⟩ (.bool true)) (.slice v.ca t.nc v.cc) t.nc t.rl t.ct := (h _ (Fr.set X b (o + 0) (.bool true))).1
  obtain ⟨b2, o2, F2, e2, _, hF2⟩ := rows_fn h2 hn
  rw [e] at e2
  cases e2
  have h3 := (hF2 0 hn).1
  rw [World.cell?_setCell_same _ _ _ (hF 0 hn).1] at h3
  have h4 := (hF2 0 hn).2
  rw [← Option.some.inj h3] at h4
  obtain ⟨_, _, h5⟩ : ∃ a c, Value.bool true = .slice a (t.rl 0) c := by
    rcases h4 with ⟨a, c, h, _⟩ | ⟨_, _, _, h, _⟩
    · cases h
    · cases h
  cases h5
theorem with_apt (J : Nat) (u : WV) (t : Tb) (c g : Nat) (a b : Int) (w : World) (h : Apt J w u t) (hJ : J < w.heap.size) (hc : c < t.nc) (hg : g < t.rl c) (hnc : t.nc ≤ 1000) (hrl : t.rl c ≤ 1000) :
    Calls Try.prog 40 #[.agg #[u.cv t, u.bv t, u.rv t, u.nv t], .int .i64 c, .int .i64 g, .agg #[.int .i64 a, .int .i64 b]] w fun e w' => ∃ ca cc, e = .returned (.agg #[.slice ca t.nc cc, u.bv t, u.rv t, u.nv t]) ∧ Apt J w' { u with ca := ca, cc := cc } (t.setC c g (a, b)) ∧ Below w.heap.size w w' := by
  refine (with_own u t c g a b w h.wl hc hg hnc hrl).mono ?_
  rintro _ w' ⟨vb, vc, nb, nc2, F, rfl, ho, hn, ⟨p, q, ep, hp, hF⟩, hb⟩
  have hne := h.ne (by omega) ep
  refine ⟨_, _, rfl, fun Z hz => ?_, hb⟩
  have hwz : Fr (fun k => k = J) w Z := (Fr.below hb _).trans hz
  have hZ := h Z hwz
  obtain ⟨p', q', F', ep', hp', hF'⟩ := rows_fn hZ.1 (by omega)
  rw [ep] at ep'
  cases ep'
  have hFe : ∀ j, j < t.nc → RsIn Z (F j) (t.rl j) (t.ct j) := fun j hj => by
    have h1 : Z.cell? ⟨p, q + j, none⟩ = w.cell? ⟨p, q + j, none⟩ := by
      have h0 : Z.heap[p]? = w.heap[p]? := hwz.block p hp hne
      simp only [World.cell?, h0]
    rw [(hF' j hj).1, (hF j hj).1] at h1
    rw [← Option.some.inj h1]
    exact (hF' j hj).2
  have ho2 := own_fr ho hz (fun k _ e _ _ e2 => by have := own_low ho e; omega)
  have hn2 := own_fr hn hz (fun k _ e _ _ e2 => by have := own_low hn e; omega)
  refine ⟨?_, hZ.2.1, hZ.2.2.1, hZ.2.2.2⟩
  have h6 := WithR.wli (Below.refl _ Z) ho2 (RsAt.ownT hn2).toIn hFe hc
  have e : (t.setC c g (a, b)).ct = fun c' g' => if c' = c then (if g' = g then (a, b) else t.ct c g') else t.ct c' g' := by
    funext c' g'
    show (if c' = c ∧ g' = g then (a, b) else t.ct c' g') = _
    by_cases e1 : c' = c
    · subst e1; simp
    · rw [if_neg (fun h => e1 h.1), if_neg e1]
  show RowsIn Z _ t.nc t.rl (t.setC c g (a, b)).ct
  rw [e]
  exact h6
end Go.Proofs.Ytjaoflfophcibaa
