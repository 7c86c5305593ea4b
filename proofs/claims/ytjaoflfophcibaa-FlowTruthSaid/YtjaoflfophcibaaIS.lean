/- FlowTruth: what a truth says of the bounds, of Would's range, of Leave, of Project. -/
import Derived.Test.YtjaoflfophcibaaIR
import Derived.Test.YtjaoflfophcibaaHL
import Derived.Test.YtjaoflfophcibaaJN
namespace Go.Proofs.Ytjaoflfophcibaa
open Go.RowKit Go.Shelf

theorem inR_meetB {n : Int} {a b : R2} (h : inR n (meetR a b)) : inR n b := by
  unfold inR meetR at *
  simp only at h
  omega
theorem Liv.ownU {y : Tb} {x : Tr} (h : Liv y x) (out : Nat → Nat → Bool) {c g : Nat} (hc : c ≤ y.nb) (hg : g < y.ng) : inR (siz y.ng x c g) (y.own out c g) := by
  have h1 := inR_meetB (h.up c g hc hg)
  have h2 : y.own off0 c g = y.ct c g := if_neg Bool.false_ne_true
  rw [h2] at h1
  unfold Tb.own
  split
  · have h3 := h.lv.sz c hc g hg
    have h4 := bdP_le (c := c) (by have := h.ok.nb; have := h.ok.nc4; omega)
    unfold inR
    simp only
    omega
  · exact h1
theorem Liv.upU {y : Tb} {x : Tr} (h : Liv y x) (out : Nat → Nat → Bool) : ∀ c g, c ≤ y.nb → g < y.ng → inR (siz y.ng x c g) (y.up out c g) := fun c g hc hg =>
  meetR_in (before_in h.w h.fit h.lv c hc (fun q g' hq hg' => h.ownU out (by omega) hg') g hg) (h.ownU out hc hg)
theorem Liv.would {y : Tb} {x : Tr} (h : Liv y x) (out : Nat → Nat → Bool) : y.agree out = true ∧ ∀ c g, c < y.nc → g < y.ng → inR (siz y.ng x c g) (bndR y out c g) := by
  have := h.ok.nb
  exact ⟨allB_true (fun g hg => by rw [emptyR_false (h.upU out (y.nc - 1) g (by omega) hg)]; rfl), fun c g hc hg => aft_in h.w h.fit h.lv (h.upU out) (y.nc - 1 - c) c (by omega) g hg⟩
theorem agree_leave {y : Tb} (h : y.agree off0 = true) : y.leave = some [] := by
  have h0 : lvF (y.nc * y.ng) (okL y) 0 [] 0 = some [] := by
    unfold lvF
    rw [if_pos]
    exact h
  unfold Tb.leave
  rw [Nat.sub_zero]
  unfold lvS
  rw [h0]
theorem canC_tab {t t' : Tb} {x : Tr} (h1 : t.ng = t'.ng) (h2 : t.r = t'.r) : ∀ n, canC t x n = canC t' x n
  | 0 => rfl
  | n + 1 => by
    unfold canC
    rw [canC_tab h1 h2 n, h1, h2]
theorem Liv.fits {y : Tb} {x : Tr} (h : Liv y x) : y.fits x = true := by
  have hng := h.ok.ng2; have hnb := h.ok.nb
  refine allB_true (fun k hk => ?_)
  have hg : k % y.ng < y.ng := Nat.mod_lt _ (by omega)
  have hc : k / y.ng < y.nc := (Nat.div_lt_iff_lt_mul (by omega)).2 hk
  have h1 := h.ownU off0 (c := k / y.ng) (g := k % y.ng) (by omega) hg
  have h2 : y.own off0 (k / y.ng) (k % y.ng) = y.ct (k / y.ng) (k % y.ng) := if_neg Bool.false_ne_true
  rw [h2] at h1
  unfold fitK inB
  rw [decide_eq_true h1.1, decide_eq_true h1.2]
  rfl
theorem Liv.isTr {y : Tb} {x : Tr} (h : Liv y x) (hf : x.nf = y.ng) (hb : x.nb = y.nb) (hd : x.nd = y.nb) (hm : x.nm = y.nb) (hdl : ∀ q, q < y.nb → x.dl q = y.ng + 1) (hml : ∀ q, q < y.nb → x.ml q = y.ng) : y.isTr x = true := by
  have k1 : allB (fun g => countB (x.f g)) y.ng = true := allB_true (fun g hg => by
    have h1 := h.fit.f g hg
    have h2 := h.ok.ct 0 g h.ok.nc1 hg
    show inB (x.f g) 0 500 = true
    unfold inB
    rw [decide_eq_true (by omega : (0 : Int) ≤ x.f g), decide_eq_true (by omega : x.f g ≤ 500)]
    rfl)
  have k2 : allB (trRow y x) y.nb = true := allB_true (fun c hc => by
    have h1 := h.fit.b c hc
    have k3 : allB (fun g => inB (x.m c g) (y.n g).1 (y.n g).2) y.ng = true := allB_true (fun g hg => by
      have h2 := h.fit.m c hc g hg
      unfold inB
      rw [decide_eq_true h2.1, decide_eq_true h2.2]
      rfl)
    unfold trRow
    rw [decide_eq_true (hdl c hc), decide_eq_true (hml c hc), k3]
    unfold inB
    rw [decide_eq_true h1.1, decide_eq_true h1.2]
    rfl)
  unfold Tb.isTr
  rw [decide_eq_true hf, decide_eq_true hb, decide_eq_true hd, decide_eq_true hm, k1, k2]
  rfl
/-- The sizes at one census more are as projected. -/
theorem Liv.more {y L : Tb} {x z : Tr} {b : R2} (h : Liv y x) (hb : 0 ≤ b.1 ∧ b.1 ≤ b.2 ∧ b.2 ≤ 500) (hng : L.ng = y.ng) (hr : L.r = y.r) (hn : L.n = y.n) (hLb : ∀ q, q < y.nb → L.b q = y.b q) (hLl : L.b y.nb = b) (hnb : L.nb = y.nb + 1) (hok : Okt L) (hg : Gt L z L.nb) (hc : canC L z L.nb = true)
    (hs : ∀ c g, c ≤ y.nb → g < y.ng → siz y.ng z c g = siz y.ng x c g) {g : Nat} (hgg : g < y.ng) : inR (siz y.ng z y.nc g) ((y.born b).before off0 y.nc g) := by
  have hl := Lv.of_can hok.w L.nb (Nat.le_refl _) hg.fit hc
  have hw := h.w; have h4 := hok.w.k4
  have hbe : ∀ q, q < y.nb + 1 → (y.born b).b q = L.b q := fun q hq => by
    show (if q = y.nb then b else y.b q) = L.b q
    by_cases e : q = y.nb
    · rw [if_pos e, e, hLl]
    · rw [if_neg e, hLb q (by omega)]
  have hfit : Fit (y.born b) z (y.nb + 1) := ⟨fun g hg' => by
    have h1 := hs 0 g (Nat.zero_le _) hg'
    have h2 : z.f g = x.f g := h1
    rw [h2]
    exact h.fit.f g hg', fun q hq => by rw [hbe q hq]; exact hg.fit.b q (by omega), fun q hq g hg' => by
    have h1 := hg.fit.m q (by omega) g (by rw [hng]; exact hg')
    rw [hn] at h1
    exact h1⟩
  have hlv : Lv (y.born b) z (y.nb + 1) := ⟨fun q hq g hg' => by
    have h1 := hl.sz q (by omega) g (by rw [hng]; exact hg')
    rw [hng] at h1
    exact h1, fun q hq i hi => by
    have h1 := hl.al q (by omega) i (by rw [hng]; exact hi)
    rw [hng, hr] at h1
    exact h1⟩
  have hok2 : Okw (y.born b) (y.nb + 1) := ⟨by omega, hw.ng2, hw.ng4, hw.ct, fun c hc' => by
    by_cases e : c = y.nb
    · rw [hbe c hc', e, hLl]; exact hb
    · rw [hbe c hc', hLb c (by omega)]; exact h.ok.b c (by omega), hw.r, hw.n⟩
  have hnc := h.ok.nb
  have h5 := before_in (out := off0) hok2 hfit hlv (y.nb + 1) (Nat.le_refl _) (fun q g' hq hg' => by
    show inR (siz y.ng z q g') (y.own off0 q g')
    rw [hs q g' (by omega) hg']
    exact h.ownU off0 (by omega) hg') g hgg
  rw [← hnc]
  exact h5
end Go.Proofs.Ytjaoflfophcibaa
