/- A truth's sizes lie in the bounds; nobody dies and nobody moves: the bounds are the same along a group's way. -/
import Derived.Test.YtjaoflfophcibaaHT
namespace Go.Proofs.Ytjaoflfophcibaa
open Go.RowKit Go.Shelf

theorem trim_in {r goal s : R2} {n v : Int} (hn : inR n s) (hv : fewestR r n ≤ v ∧ v ≤ mostR r n) (hg : inR v goal) : inR n (trimR r goal s) := by
  have h1 : loP r goal n = false := decide_eq_false (by have := hg.1; omega)
  have h2 : hiP r goal n = false := decide_eq_false (by have := hg.2; omega)
  exact ⟨loEnd_le h1 _ _ hn.1, hiEnd_ge h2 _ _ hn.2⟩
theorem minus_in {a b : R2} {m v w : Int} (h1 : inR m a) (h2 : inR w b) (e : m = v + w) : inR v (minusR a b) := by
  unfold inR minusR at *
  simp only
  omega
theorem aft_in {t : Tb} {x : Tr} {nb : Nat} {out : Nat → Nat → Bool} (ht : Okw t nb) (hf : Fit t x nb) (hl : Lv t x nb) (hup : ∀ c g, c ≤ nb → g < t.ng → inR (siz t.ng x c g) (t.up out c g)) :
    ∀ k c, c + k ≤ nb → ∀ g, g < t.ng → inR (siz t.ng x c g) (t.aft out k c g (t.up out c g))
  | 0, c, hc, g, hg => hup c g (by omega) hg
  | k + 1, c, hc, g, hg => by
    have hng := ht.ng2
    have hnx : t.nx g < t.ng := by unfold Tb.nx Tb.last; omega
    have ih := aft_in ht hf hl hup k (c + 1) (by omega) (t.nx g) hnx
    have hf' : Fit t x (c + 1) := ⟨hf.f, fun q hq => hf.b q (by omega), fun q hq => hf.m q (by omega)⟩
    have hl' : Lv t x (c + 1) := ⟨fun q hq => hl.sz q (by omega), fun q hq => hl.al q (by omega)⟩
    have hs := siz_succ ht (by omega) hf' hl' hnx
    have hm := hf.m c (by omega) (t.nx g) hnx
    have hu := hup c g (by omega) hg
    have hliv : ∀ q, q < t.ng → inR (siz t.ng x c q - x.d c (q + 1)) (livingR (t.r (q + 1)) (t.up out c q)) := fun q hq => by
      obtain ⟨h1, h2⟩ := hl.al c (by omega) (q + 1) (by omega)
      obtain ⟨_, r2, r3⟩ := ht.r (q + 1) (by omega)
      exact living_in r2 r3 (hup c q (by omega) hq) h2
    obtain ⟨_, hd⟩ := hl.al c (by omega) (g + 1) (by omega)
    have hd' : fewestR (t.r (g + 1)) (siz t.ng x c g) ≤ siz t.ng x c g - x.d c (g + 1) ∧ siz t.ng x c g - x.d c (g + 1) ≤ mostR (t.r (g + 1)) (siz t.ng x c g) := by
      unfold fewestR mostR
      have h1 : (deadR (t.r (g + 1)) (siz t.ng x c g)).1 ≤ x.d c (g + 1) := hd.1
      have h2 : x.d c (g + 1) ≤ (deadR (t.r (g + 1)) (siz t.ng x c g)).2 := hd.2
      omega
    unfold Tb.aft
    rw [if_neg (by rw [emptyR_false hu]; decide)]
    refine trim_in hu hd' ?_
    generalize t.aft out k (c + 1) (t.nx g) (t.up out (c + 1) (t.nx g)) = AF at ih
    have hnet : inR (siz t.ng x (c + 1) (t.nx g) - x.m c (t.nx g)) (minusR AF (t.n (t.nx g))) := minus_in ih hm (by omega)
    by_cases e1 : g + 1 < t.ng - 1
    · have en : t.nx g = g + 1 := by unfold Tb.nx Tb.last; omega
      have es : srcG t (g + 1) = [g] := by unfold srcG; rw [if_pos (by omega), if_neg (by omega)]; simp
      rw [en] at hs hnet ⊢
      unfold Tb.last at hs
      rw [if_neg (by omega)] at hs
      rw [es]
      unfold subR
      rw [es]
      simp only [List.length_cons, List.length_nil, List.take_succ_cons, List.take_nil, List.foldl_cons, List.foldl_nil, if_true]
      have hs' : siz t.ng x (c + 1) (g + 1) = (siz t.ng x c g - x.d c (g + 1)) + x.m c (g + 1) := hs
      rw [hs'] at hnet
      rw [show siz t.ng x c g - x.d c (g + 1) + x.m c (g + 1) - x.m c (g + 1) = siz t.ng x c g - x.d c (g + 1) by omega] at hnet
      exact hnet
    · have en : t.nx g = t.ng - 1 := by unfold Tb.nx Tb.last; omega
      obtain ⟨l, hlast⟩ : ∃ l, t.ng - 1 = l + 1 := ⟨t.ng - 2, by omega⟩
      have es : srcG t (l + 1) = [l, l + 1] := by unfold srcG; rw [if_pos (by omega), if_pos (by omega)]; simp
      rw [en, hlast] at hs hnet ⊢
      unfold Tb.last at hs
      rw [if_pos hlast.symm] at hs
      have hs' : siz t.ng x (c + 1) (l + 1) = (siz t.ng x c l - x.d c (l + 1)) + (siz t.ng x c (l + 1) - x.d c (l + 1 + 1)) + x.m c (l + 1) := hs
      rw [es]
      unfold subR
      rw [es]
      simp only [List.length_cons, List.length_nil, List.take_succ_cons, List.take_nil, List.foldl_cons, List.foldl_nil]
      by_cases e2 : g = l + 1
      · subst e2
        rw [if_pos rfl, if_neg (by omega)]
        exact minus_in hnet (hliv l (by omega)) (by omega)
      · obtain rfl : g = l := by omega
        rw [if_neg (by omega), if_pos rfl]
        exact minus_in hnet (hliv (g + 1) (by omega)) (by omega)
theorem cnt_in {n w : Int} (hn : 0 ≤ n) : inR n (cntR n w false) := by
  unfold inR cntR
  simp only [Bool.false_eq_true, if_false]
  omega
/-- What a table that was counted round a truth has. -/
theorem cnted_ng {t : Tb} (ht : Okt t) (x : Tr) (nw : Nat) (z : Nat → Int) (bits : Int) : (t.cnted x nw z bits).ng = t.ng := by
  have := ht.nc1
  show (if t.nc = 0 then 0 else if 0 < t.nc then t.ng else 0) = t.ng
  rw [if_neg (by omega), if_pos (by omega)]
structure Liv (y : Tb) (x : Tr) : Prop where
  ok : Okt y
  w : Okw y y.nb
  fit : Fit y x y.nb
  lv : Lv y x y.nb
  up : ∀ c g, c ≤ y.nb → g < y.ng → inR (siz y.ng x c g) (y.up off0 c g)
theorem bitB_zero (i : Nat) : bitB 0 i = false := by unfold bitB; simp
theorem Liv.of {t : Tb} {x : Tr} {nw : Nat} {z : Nat → Int} (ht : Okt t) (hg : Gt t x t.nb) (hc : canC t x t.nb = true) (hf : (t.cnted x nw z 0).fault = 0) : Liv (t.cnted x nw z 0) x := by
  have hng := cnted_ng ht x nw z 0
  have hok := Okt.of_fault hf
  have hl := Lv.of_can ht.w t.nb (Nat.le_refl _) hg.fit hc
  have hnb := ht.nb
  have hct : ∀ c g, c ≤ t.nb → g < t.ng → inR (siz t.ng x c g) ((t.cnted x nw z 0).ct c g) := fun c g hc hg => by
    show inR (siz t.ng x c g) (cntT (siz t.ng x) nw z 0 c g)
    unfold cntT
    rw [bitB_zero]
    exact cnt_in (hl.sz c hc g hg).1
  have hfit : Fit (t.cnted x nw z 0) x t.nb := ⟨fun g hg => by rw [hng] at hg; exact hct 0 g (Nat.zero_le _) hg, hg.fit.b, fun q hq g hg' => by rw [hng] at hg'; exact hg.fit.m q hq g hg'⟩
  have hlv : Lv (t.cnted x nw z 0) x t.nb := ⟨fun q hq g hg => by rw [hng] at hg ⊢; exact hl.sz q hq g hg, fun q hq i hi => by rw [hng] at hi ⊢; exact hl.al q hq i hi⟩
  have hown : ∀ c g, c ≤ t.nb → g < (t.cnted x nw z 0).ng → inR (siz (t.cnted x nw z 0).ng x c g) ((t.cnted x nw z 0).own off0 c g) := fun c g hc hg => by
    rw [hng] at hg ⊢
    unfold Tb.own
    rw [if_neg (by unfold off0; decide)]
    exact hct c g hc hg
  exact ⟨hok, hok.w, hfit, hlv, fun c g hc hg => meetR_in (before_in hok.w hfit hlv c hc (fun q g' hq hg' => hown q g' (by have : c ≤ t.nb := hc; omega) hg') g hg) (hown c g hc hg)⟩
theorem Liv.agree {y : Tb} {x : Tr} (h : Liv y x) : y.agree off0 = true := by
  have := h.ok.nb
  exact allB_true (fun g hg => by rw [emptyR_false (h.up (y.nc - 1) g (by omega) hg)]; rfl)
theorem Liv.bnd {y : Tb} {x : Tr} (h : Liv y x) {c g : Nat} (hc : c < y.nc) (hg : g < y.ng) : inR (siz y.ng x c g) (bndR y off0 c g) := by
  have := h.ok.nb
  exact aft_in h.w h.fit h.lv h.up (y.nc - 1 - c) c (by omega) g hg
theorem aft_sub {t : Tb} {out : Nat → Nat → Bool} : ∀ k c g s, s.1 ≤ (t.aft out k c g s).1 ∧ (t.aft out k c g s).2 ≤ s.2
  | 0, _, _, s => ⟨Int.le_refl _, Int.le_refl _⟩
  | k + 1, c, g, s => by
    unfold Tb.aft
    split
    · exact ⟨Int.le_refl _, Int.le_refl _⟩
    · exact ⟨(loEnd_bd _ _ _ _).1, (hiEnd_bd _ _ _ _).1⟩
end Go.Proofs.Ytjaoflfophcibaa
