/- A truth's sizes lie in the bounds; nobody dies and nobody moves: the bounds are the same along a group's way. -/
import Derived.Test.YtjaoflfophcibaaPL
namespace Go.Proofs.Ytjaoflfophcibaa
open Go.RowKit Go.Shelf

theorem loEnd_le {hi : Int} {P : Int → Bool} {n : Int} (hp : P n = false) : ∀ f lo, lo ≤ n → loEnd hi P f lo ≤ n
  | 0, lo, h => h
  | f + 1, lo, h => by
    unfold loEnd
    split
    · rename_i hc
      simp only [Bool.and_eq_true, decide_eq_true_eq] at hc
      have hne : lo ≠ n := fun e => by rw [e, hp] at hc; exact absurd hc.2 (by decide)
      exact loEnd_le hp f (lo + 1) (by omega)
    · exact h
theorem hiEnd_ge {lo : Int} {P : Int → Bool} {n : Int} (hp : P n = false) : ∀ f hi, n ≤ hi → n ≤ hiEnd lo P f hi
  | 0, hi, h => h
  | f + 1, hi, h => by
    unfold hiEnd
    split
    · rename_i hc
      simp only [Bool.and_eq_true, decide_eq_true_eq] at hc
      have hne : hi ≠ n := fun e => by rw [e, hp] at hc; exact absurd hc.2 (by decide)
      exact hiEnd_ge hp f (hi - 1) (by omega)
    · exact h
theorem trim_in {r goal s : R2} {n v : Int} (hn : inR n s) (hv : fewestR r n ≤ v ∧ v ≤ mostR r n) (hg : inR v goal) : inR n (trimR r goal s) := by
  have h1 : loP r goal n = false := decide_eq_false (by have := hg.1; omega)
  have h2 : hiP r goal n = false := decide_eq_false (by have := hg.2; omega)
  exact ⟨loEnd_le h1 _ _ hn.1, hiEnd_ge h2 _ _ hn.2⟩
theorem minus_in {a b : R2} {m v w : Int} (h1 : inR m a) (h2 : inR w b) (e : m = v + w) : inR v (minusR a b) := by
  unfold inR minusR at *
  simp only
  omega
theorem aft_in {t : Tb} {x : Tr} {nb : Nat} {out : Nat → Nat → Bool} (ht : Okw t nb) (hf : Fit t x nb) (hl : Lv t x nb) (hup : ∀ c g, c ≤ nb → g < t.ng → inR (siz t.ng x c g) (t.up out c g)) :
    ∀ k c, c + k ≤ nb → ∀ g, g < t.ng → inR (siz t.ng x c g) (t.aft out k c g (t.up out c g))
  | 0, c, hc, g, hg => hup c g (by omega) hg
  | k + 1, c, hc, g, hg => by
    have hng := ht.ng2
    have hnx : t.nx g < t.ng := by unfold Tb.nx Tb.last; omega
    have ih := aft_in ht hf hl hup k (c + 1) (by omega) (t.nx g) hnx
    have hf' : Fit t x (c + 1) := ⟨hf.f, fun q hq => hf.b q (by omega), fun q hq => hf.m q (by omega)⟩
    have hl' : Lv t x (c + 1) := ⟨fun q hq => hl.sz q (by omega), fun q hq => hl.al q (by omega)⟩
    have hs := siz_succ ht (by omega) hf' hl' hnx
    have hm := hf.m c (by omega) (t.nx g) hnx
    have hu := hup c g (by omega) hg
    have hliv : ∀ q, q < t.ng → inR (siz t.ng x c q - x.d c (q + 1)) (livingR (t.r (q + 1)) (t.up out c q)) := fun q hq => by
      obtain ⟨h1, h2⟩ := hl.al c (by omega) (q + 1) (by omega)
      obtain ⟨_, r2, r3⟩ := ht.r (q + 1) (by omega)
      exact living_in r2 r3 (hup c q (by omega) hq) h2
    obtain ⟨_, hd⟩ := hl.al c (by omega) (g + 1) (by omega)
    have hd' : fewestR (t.r (g + 1)) (siz t.ng x c g) ≤ siz t.ng x c g - x.d c (g + 1) ∧ siz t.ng x c g - x.d c (g + 1) ≤ mostR (t.r (g + 1)) (siz t.ng x c g) := by
      unfold fewestR mostR
      have h1 : (deadR (t.r (g + 1)) (siz t.ng x c g)).1 ≤ x.d c (g + 1) := hd.1
      have h2 : x.d c (g + 1) ≤ (deadR (t.r (g + 1)) (siz t.ng x c g)).2 := hd.2
      omega
    unfold Tb.aft
    rw [if_neg (by rw [emptyR_false hu]; decide)]
    refine trim_in hu hd' ?_
    generalize t.aft out k (c + 1) (t.nx g) (t.up out (c + 1) (t.nx g)) = AF at ih
    have hnet : inR (siz t.ng x (c + 1) (t.nx g) - x.m c (t.nx g)) (minusR AF (t.n (t.nx g))) := minus_in ih hm (by omega)
    by_cases e1 : g + 1 < t.ng - 1
    · have en : t.nx g = g + 1 := by unfold Tb.nx Tb.last; omega
      have es : srcG t (g + 1) = [g] := by unfold srcG; rw [if_pos (by omega), if_neg (by omega)]; simp
      rw [en] at hs hnet ⊢
      unfold Tb.last at hs
      rw [if_neg (by omega)] at hs
      rw [es]
      unfold subR
      rw [es]
      simp only [List.length_cons, List.length_nil, List.take_succ_cons, List.take_nil, List.foldl_cons, List.foldl_nil, if_true]
      have hs' : siz t.ng x (c + 1) (g + 1) = (siz t.ng x c g - x.d c (g + 1)) + x.m c (g + 1) := hs
      rw [hs'] at hnet
      rw [show siz t.ng x c g - x.d c (g + 1) + x.m c (g + 1) - x.m c (g + 1) = siz t.ng x c g - x.d c (g + 1) by omega] at hnet
      exact hnet
    · have en : t.nx g = t.ng - 1 := by unfold Tb.nx Tb.last; omega
      obtain ⟨l, hlast⟩ : ∃ l, t.ng - 1 = l + 1 := ⟨t.ng - 2, by omega⟩
      have es : srcG t (l + 1) = [l, l + 1] := by unfold srcG; rw [if_pos (by omega), if_pos (by omega)]; simp
      rw [en, hlast] at hs hnet ⊢
      unfold Tb.last at hs
      rw [if_pos hlast.symm] at hs
      have hs' : siz t.ng x (c + 1) (l + 1) = (siz t.ng x c l - x.d c (l + 1)) + (siz t.ng x c (l + 1) - x.d c (l + 1 + 1)) + x.m c (l + 1) := hs
      rw [es]
      unfold subR
      rw [es]
      simp only [List.length_cons, List.length_nil, List.take_succ_cons, List.take_nil, List.foldl_cons, List.foldl_nil]
      by_cases e2 : g = l + 1
      · subst e2
        rw [if_pos rfl, if_neg (by omega)]
        exact minus_in hnet (hliv l (by omega)) (by omega)
      · obtain rfl : g = l := by omega
        rw [if_neg (by omega), if_pos rfl]
        exact minus_in hnet (hliv (g + 1) (by omega)) (by omega)
theorem cnt_in {n w : Int} (hn : 0 ≤ n) : inR n (cntR n w false) := by
  unfold inR cntR
  simp only [Bool.false_eq_true, if_false]
  omega
/-- What a table that was counted round a truth has. -/
theorem cnted_ng {t : Tb} (ht : Okt t) (x : Tr) (nw : Nat) (z : Nat → Int) (bits : Int) : (t.cnted x nw z bits).ng = t.ng := by
  have := ht.nc1
  show (if t.nc = 0 then 0 else if 0 < t.nc then t.ng else 0) = t.ng
  rw [if_neg (by omega), if_pos (by omega)]
structure Liv (y : Tb) (x : Tr) : Prop where
  ok : Okt y
  w : Okw y y.nb
  fit : Fit y x y.nb
  lv : Lv y x y.nb
  up : ∀ c g, c ≤ y.nb → g < y.ng → inR (siz y.ng x c g) (y.up off0 c g)
theorem bitB_zero (i : Nat) : bitB 0 i = false := by unfold bitB; simp
theorem Liv.of {t : Tb} {x : Tr} {nw : Nat} {z : Nat → Int} (ht : Okt t) (hg : Gt t x t.nb) (hc : canC t x t.nb = true) (hf : (t.cnted x nw z 0).fault = 0) : Liv (t.cnted x nw z 0) x := by
  have hng := cnted_ng ht x nw z 0
  have hok := Okt.of_fault hf
  have hl := Lv.of_can ht.w t.nb (Nat.le_refl _) hg.fit hc
  have hnb := ht.nb
  have hct : ∀ c g, c ≤ t.nb → g < t.ng → inR (siz t.ng x c g) ((t.cnted x nw z 0).ct c g) := fun c g hc hg => by
    show inR (siz t.ng x c g) (cntT (siz t.ng x) nw z 0 c g)
    unfold cntT
    rw [bitB_zero]
    exact cnt_in (hl.sz c hc g hg).1
  have hfit : Fit (t.cnted x nw z 0) x t.nb := ⟨fun g hg => by rw [hng] at hg; exact hct 0 g (Nat.zero_le _) hg, hg.fit.b, fun q hq g hg' => by rw [hng] at hg'; exact hg.fit.m q hq g hg'⟩
  have hlv : Lv (t.cnted x nw z 0) x t.nb := ⟨fun q hq g hg => by rw [hng] at hg ⊢; exact hl.sz q hq g hg, fun q hq i hi => by rw [hng] at hi ⊢; exact hl.al q hq i hi⟩
  have hown : ∀ c g, c ≤ t.nb → g < (t.cnted x nw z 0).ng → inR (siz (t.cnted x nw z 0).ng x c g) ((t.cnted x nw z 0).own off0 c g) := fun c g hc hg => by
    rw [hng] at hg ⊢
    unfold Tb.own
    rw [if_neg (by unfold off0; decide)]
    exact hct c g hc hg
  exact ⟨hok, hok.w, hfit, hlv, fun c g hc hg => meetR_in (before_in hok.w hfit hlv c hc (fun q g' hq hg' => hown q g' (by have : c ≤ t.nb := hc; omega) hg') g hg) (hown c g hc hg)⟩
theorem Liv.agree {y : Tb} {x : Tr} (h : Liv y x) : y.agree off0 = true := by
  have := h.ok.nb
  exact allB_true (fun g hg => by rw [emptyR_false (h.up (y.nc - 1) g (by omega) hg)]; rfl)
theorem Liv.bnd {y : Tb} {x : Tr} (h : Liv y x) {c g : Nat} (hc : c < y.nc) (hg : g < y.ng) : inR (siz y.ng x c g) (bndR y off0 c g) := by
  have := h.ok.nb
  exact aft_in h.w h.fit h.lv h.up (y.nc - 1 - c) c (by omega) g hg
theorem aft_sub {t : Tb} {out : Nat → Nat → Bool} : ∀ k c g s, s.1 ≤ (t.aft out k c g s).1 ∧ (t.aft out k c g s).2 ≤ s.2
  | 0, _, _, s => ⟨Int.le_refl _, Int.le_refl _⟩
  | k + 1, c, g, s => by
    unfold Tb.aft
    split
    · exact ⟨Int.le_refl _, Int.le_refl _⟩
    · exact ⟨(loEnd_bd _ _ _ _).1, (hiEnd_bd _ _ _ _).1⟩
theorem loEnd_eq {hi G : Int} {P : Int → Bool} (hP : ∀ v, P v = decide (v < G)) : ∀ (f : Nat) (lo : Int), lo ≤ G → G ≤ hi → G - lo ≤ f → loEnd hi P f lo = G
  | 0, lo, h1, _, h3 => by show lo = G; omega
  | f + 1, lo, h1, h2, h3 => by
    unfold loEnd
    rw [hP lo]
    by_cases e : lo < G
    · rw [decide_eq_true e, decide_eq_true (by omega : lo ≤ hi)]
      exact loEnd_eq hP f (lo + 1) (by omega) h2 (by omega)
    · rw [decide_eq_false e]
      simp
      omega
theorem hiEnd_eq {lo G : Int} {P : Int → Bool} (hP : ∀ v, P v = decide (v > G)) : ∀ (f : Nat) (hi : Int), G ≤ hi → lo ≤ G → hi - G ≤ f → hiEnd lo P f hi = G
  | 0, hi, h1, _, h3 => by show hi = G; omega
  | f + 1, hi, h1, h2, h3 => by
    unfold hiEnd
    rw [hP hi]
    by_cases e : hi > G
    · rw [decide_eq_true e, decide_eq_true (by omega : lo ≤ hi)]
      exact hiEnd_eq hP f (hi - 1) (by omega) h2 (by omega)
    · rw [decide_eq_false e]
      simp
      omega
theorem trim_zero {G s : R2} (h1 : s.1 ≤ G.1) (h2 : G.1 ≤ G.2) (h3 : G.2 ≤ s.2) : trimR (0, 0) G s = G := by
  have e1 : trimLo (0, 0) G s = G.1 := loEnd_eq (fun v => by unfold loP mostR deadR; simp) _ _ h1 (by omega) (by omega)
  have e2 : trimHi (0, 0) G s = G.2 := by
    unfold trimHi
    rw [e1]
    exact hiEnd_eq (fun v => by unfold hiP fewestR deadR; simp) _ _ h3 h2 (by omega)
  unfold trimR
  rw [e1, e2]
theorem still_bnd {y : Tb} {x : Tr} (h : Liv y x) (hr : ∀ i, i < y.nr → y.r i = (0, 0)) (hn : ∀ i, i < y.nn → y.n i = (0, 0)) {c g : Nat} (hc : c + 1 < y.nc) (hg : g + 1 < y.ng - 1) : bndR y off0 (c + 1) (g + 1) = bndR y off0 c g := by
  have hnr := h.ok.nr; have hnn := h.ok.nn; have hnb := h.ok.nb
  have hG := h.bnd hc (g := g + 1) (by omega)
  have hu := h.up c g (by omega) (by omega)
  have hsub := aft_sub (t := y) (out := off0) (y.nc - 1 - (c + 1)) (c + 1) (g + 1) (y.up off0 (c + 1) (g + 1))
  have hup : (y.up off0 c g).1 ≤ (y.up off0 (c + 1) (g + 1)).1 ∧ (y.up off0 (c + 1) (g + 1)).2 ≤ (y.up off0 c g).2 := by
    have hb : y.before off0 (c + 1) (g + 1) = meetR (y.up off0 c g) (0, 1048576) := by
      show y.arr c (g + 1) (y.up off0 c) = _
      unfold Tb.arr Tb.last
      simp only
      have e1 : (decide (0 < g + 1) && emptyR (y.up off0 c (g + 1 - 1))) = false := by
        rw [show g + 1 - 1 = g by omega, emptyR_false hu]; simp
      have e2 : (decide (g + 1 = y.ng - 1) && emptyR (y.up off0 c (g + 1))) = false := by rw [decide_eq_false (by omega)]; rfl
      rw [e1, e2]
      simp only [Bool.or_self, Bool.false_eq_true, if_false]
      rw [if_neg (show ¬ g + 1 = y.ng - 1 by omega), if_pos (show 0 < g + 1 by omega), if_neg (show ¬ g + 1 = 0 by omega), hr (g + 1) (by omega), hn (g + 1) (by omega), show g + 1 - 1 = g by omega]
      unfold plusR livingR fewestR mostR deadR
      simp
    unfold Tb.up at *
    rw [hb]
    unfold meetR
    simp only
    omega
  show y.aft off0 (y.nc - 1 - (c + 1)) (c + 1) (g + 1) (y.up off0 (c + 1) (g + 1)) = y.aft off0 (y.nc - 1 - c) c g (y.up off0 c g)
  have ek : y.nc - 1 - c = (y.nc - 1 - (c + 1)) + 1 := by omega
  rw [ek]
  have en : y.nx g = g + 1 := by unfold Tb.nx Tb.last; omega
  have es : srcG y (g + 1) = [g] := by unfold srcG; rw [if_pos (by omega), if_neg (by omega)]; simp
  unfold bndR at hG
  generalize hAF : y.aft off0 (y.nc - 1 - (c + 1)) (c + 1) (g + 1) (y.up off0 (c + 1) (g + 1)) = AF at *
  symm
  show (if emptyR (y.up off0 c g) = true then y.up off0 c g else trimR (y.r (g + 1)) (subR y g (y.nx g) (y.up off0 c) (minusR (y.aft off0 (y.nc - 1 - (c + 1)) (c + 1) (y.nx g) (y.up off0 (c + 1) (y.nx g))) (y.n (y.nx g))) (srcG y (y.nx g)).length) (y.up off0 c g)) = AF
  rw [if_neg (by rw [emptyR_false hu]; decide), en, hAF, hr (g + 1) (by omega), hn (g + 1) (by omega), es]
  unfold subR
  rw [es]
  simp only [List.length_cons, List.length_nil, List.take_succ_cons, List.take_nil, List.foldl_cons, List.foldl_nil, if_true]
  have em : minusR AF (0, 0) = AF := by unfold minusR; simp
  rw [em]
  exact trim_zero (by omega) (Int.le_trans hG.1 hG.2) (by omega)
end Go.Proofs.Ytjaoflfophcibaa
