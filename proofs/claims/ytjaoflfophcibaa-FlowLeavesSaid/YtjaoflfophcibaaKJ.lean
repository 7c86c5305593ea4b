/- The reference's Own. -/
import Derived.Test.YtjaoflfophcibaaKI
import Derived.Test.YtjaoflfophcibaaPJ
namespace Go.Proofs.Ytjaoflfophcibaa
open Go.RowKit Go.Shelf

/-- A valid table, with births behind the last census perhaps. -/
structure OkR (t : Tb) : Prop where
  ng2 : 2 ≤ t.ng
  ng4 : t.ng ≤ 4
  nc1 : 1 ≤ t.nc
  nc4 : t.nc ≤ 4
  nbl : t.nc ≤ t.nb + 1
  nb4 : t.nb ≤ 4
  nr : t.nr = t.ng + 1
  nn : t.nn = t.ng
  rl : ∀ c, c < t.nc → t.rl c = t.ng
  ct : ∀ c g, c < t.nc → g < t.ng → 0 ≤ (t.ct c g).1 ∧ (t.ct c g).1 ≤ (t.ct c g).2 ∧ (t.ct c g).2 ≤ 500
  b : ∀ c, c < t.nb → 0 ≤ (t.b c).1 ∧ (t.b c).1 ≤ (t.b c).2 ∧ (t.b c).2 ≤ 500
  r : ∀ c, c < t.nr → 0 ≤ (t.r c).1 ∧ (t.r c).1 ≤ (t.r c).2 ∧ (t.r c).2 ≤ 1000
  n : ∀ c, c < t.nn → -50 ≤ (t.n c).1 ∧ (t.n c).1 ≤ (t.n c).2 ∧ (t.n c).2 ≤ 50
theorem Okt.toR {t : Tb} (h : Okt t) : OkR t := ⟨h.ng2, h.ng4, h.nc1, h.nc4, by have := h.nb; omega, by have := h.nb; have := h.nc4; omega, h.nr, h.nn, h.rl, h.ct, h.b, h.r, h.n⟩
theorem OkR.w {t : Tb} (h : OkR t) : Okw t t.nb := ⟨h.nb4, h.ng2, h.ng4, fun g hg => h.ct 0 g h.nc1 hg, h.b, fun c hc => h.r c (by rw [h.nr]; exact hc), fun c hc => h.n c (by rw [h.nn]; exact hc)⟩
theorem OkR.own {t : Tb} (h : OkR t) (out : Nat → Nat → Bool) : ∀ c g, c < t.nc → g < t.ng → 0 ≤ (t.own out c g).1 := fun c g hc hg => by
  have h1 := h.ct c g hc hg
  unfold Tb.own
  split
  · exact Int.le_refl _
  · exact h1.1
theorem outL_at (out : Nat → Nat → Bool) : ∀ c g, c < 4 → g < 4 → (outL out).toArray[c * 4 + g]? = some (.bool (out c g)) := fun c g hc hg => by
  unfold outL
  rw [List.getElem?_toArray, List.getElem?_map, List.getElem?_range (by omega)]
  show some (Value.bool (out ((c * 4 + g) / 4) ((c * 4 + g) % 4))) = _
  rw [show (c * 4 + g) / 4 = c by omega, show (c * 4 + g) % 4 = g by omega]
set_option maxRecDepth 100000 in
set_option maxHeartbeats 4000000 in
theorem rown_any (u : WV) (t : Tb) (out : Nat → Nat → Bool) (c g : Nat) (w : World) (hl : WLi w u t) (ht : OkR t) (hc : c < t.nc) (hg : g < t.ng) :
    Calls Try.prog 68 #[.agg #[u.cv t, u.bv t, u.rv t, u.nv t], .int .i64 c, .int .i64 g, .agg (outL out).toArray] w fun e w' => ∃ q, e = .returned (.agg (stA q)) ∧ IvS q (t.own out c g) ∧ Below w.heap.size w w' := by
  have ng4 := ht.ng4; have nc4 := ht.nc4
  obtain ⟨cb, co, ra, rc, hca, hcb, x0, hrow⟩ := hl.1.at hc
  rw [ht.rl c hc] at x0 hrow
  obtain ⟨rb, ro, rfl, hrb, x1, x2⟩ := hrow.at (k := g) hg
  obtain ⟨uca, ucc, uba, ubc, ura, urc, una, unc⟩ := u
  simp only at hca
  subst hca
  simp only [WV.cv, WV.bv, WV.rv, WV.nv]
  obtain ⟨lo, hi, HCT⟩ : ∃ lo hi, Hid (t.ct c g = (lo, hi)) := ⟨_, _, rfl⟩
  rw [HCT.out] at x1 x2
  simp only at x1 x2
  have HX : Hid (∀ X, Below w.heap.size w X → X.cell? ⟨cb, co + c, none⟩ = some (.slice (some ⟨rb, ro, none⟩) t.ng rc) ∧ X.cell? ⟨rb, ro + g * 2, none⟩ = some (.int .i64 lo) ∧ X.cell? ⟨rb, ro + g * 2 + 1, none⟩ = some (.int .i64 hi)) := fun X hX => ⟨kept hX hcb x0, kept hX hrb x1, kept hX hrb x2⟩
  clear x0 x1 x2 hcb hrb hrow hl ht
  have HA0 : Hid (BF w (((w.alloc (.cells #[.slice (some ⟨cb, co, none⟩) t.nc ucc, .slice uba t.nb ubc, .slice ura t.nr urc, .slice una t.nn unc] 25)).alloc (.cells (outL out).toArray 46)).alloc (.cells Try.zeroCells54 54)) [(w.heap.size, #[.slice (some ⟨cb, co, none⟩) t.nc ucc, .slice uba t.nb ubc, .slice ura t.nr urc, .slice una t.nn unc], 25), (w.heap.size + 1, (outL out).toArray, 46), (w.heap.size + 2, stA fun _ => false, 54)]) := by
    have h := BF.made3 w #[.slice (some ⟨cb, co, none⟩) t.nc ucc, .slice uba t.nb ubc, .slice ura t.nr urc, .slice una t.nn unc] (outL out).toArray Try.zeroCells54 25 46 54
    rw [stA_zero] at h ⊢
    exact h
  have HO0 := Lib.hid (outL_at out c g (by omega) (by omega))
  obtain ⟨OF, hOF⟩ : ∃ OF, (outL out).toArray = OF := ⟨_, rfl⟩
  rw [hOF] at HA0 HO0 ⊢
  clear hOF
  have ci : (0 : Int) ≤ (c : Int) := by omega
  have gi : (0 : Int) ≤ (g : Int) := by omega
  have cj : (c : Int) < (t.nc : Int) := by omega
  have gj : (g : Int) < (t.ng : Int) := by omega
  have c4 : (c : Int) < 4 := by omega
  have g4 : (g : Int) < 4 := by omega
  go_enter Try.func68, Try.ntmps68
  go_upto_region 1 with (refine wpList_box_row (o := ⟨some 7, .box 46 (.tmp 3), _, _, _, _⟩) rfl 46 (.tmp 3) rfl OF rfl ?_)
  generalize (((w.alloc (.cells #[.slice (some ⟨cb, co, none⟩) t.nc ucc, .slice uba t.nb ubc, .slice ura t.nr urc, .slice una t.nn unc] 25)).alloc (.cells OF 46)).alloc (.cells Try.zeroCells54 54)) = w1 at *
  have o0 : w1.cell? ⟨w.heap.size + 1, c * 4 + g, none⟩ = some (.bool (out c g)) := (HA0.out.cell (.tail _ (.head _)) _).trans HO0.out
  have k0 := HA0.out.cell (.head _) 0
  obtain ⟨x0, x1, x2⟩ := HX.out _ HA0.out.fr
  obtain ⟨ob, hob⟩ : ∃ ob, out c g = ob := ⟨_, rfl⟩
  have HOB := Lib.hid hob
  rw [hob] at o0
  clear hob
  cases ob
  · go_wp2_with fail
    refine (filled_any lo hi _).mono ?_
    rintro _ w2 ⟨rfl, hb2⟩
    have HA := Lib.hid (HA0.out.below hb2)
    have HR : Hid (w2.heap[w.heap.size + 1 + 1]? = some (.cells (stA fun _ => false) 54 (0, 0))) := (HA.out.bk _ _ _ (.tail _ (.tail _ (.head _)))).2
    have HSZ := Lib.hid (stA_info (fillP lo hi))
    clear x0 x1 x2 k0 o0 hb2
    go_wp2_with (refine wpList_store_row (o := ⟨none, .store 54 (.tmp 8) (.tmp 24), _, _, _, _⟩) rfl 54 (.tmp 8) (.tmp 24) rfl (w.heap.size + 1 + 1) (stA (fillP lo hi)) rfl rfl 54 (stA fun _ => false) HR.out HSZ.out rfl (stA_one _) ?_)
    refine bodyPost_ret (v := .agg (stA (fillP lo hi))) (results_cell_row rfl _ _ (w.heap.size + 1 + 1) 54 _ (0, 0) _ rfl (setRow_heap _ _ _ _ _ _ HR.out) Try.underlying54 rfl HSZ.out) rfl ⟨_, rfl, ?_, HA.out.fr.trans ⟨rfl, rfl, rfl, by simp, fun q hq => setRow_other _ _ _ _ (by omega)⟩⟩
    rw [show t.own out c g = (lo, hi) by unfold Tb.own; rw [HOB.out, HCT.out]; rfl]
    exact IvS.fill lo hi
  · go_wp2_with fail
    refine (filled_any 0 3000 _).mono ?_
    rintro _ w2 ⟨rfl, hb2⟩
    have HA := Lib.hid (HA0.out.below hb2)
    have HR : Hid (w2.heap[w.heap.size + 1 + 1]? = some (.cells (stA fun _ => false) 54 (0, 0))) := (HA.out.bk _ _ _ (.tail _ (.tail _ (.head _)))).2
    have HSZ := Lib.hid (stA_info (fillP 0 3000))
    clear x0 x1 x2 k0 o0 hb2
    go_wp2_with (refine wpList_store_row (o := ⟨none, .store 54 (.tmp 8) (.tmp 15), _, _, _, _⟩) rfl 54 (.tmp 8) (.tmp 15) rfl (w.heap.size + 1 + 1) (stA (fillP 0 3000)) rfl rfl 54 (stA fun _ => false) HR.out HSZ.out rfl (stA_one _) ?_)
    refine bodyPost_ret (v := .agg (stA (fillP 0 3000))) (results_cell_row rfl _ _ (w.heap.size + 1 + 1) 54 _ (0, 0) _ rfl (setRow_heap _ _ _ _ _ _ HR.out) Try.underlying54 rfl HSZ.out) rfl ⟨_, rfl, ?_, HA.out.fr.trans ⟨rfl, rfl, rfl, by simp, fun q hq => setRow_other _ _ _ _ (by omega)⟩⟩
    rw [show t.own out c g = (0, 1048576) by unfold Tb.own; rw [HOB.out]; rfl]
    intro i hi
    rw [IvS.fill 0 3000 i hi]
    unfold inR
    simp only
    omega
end Go.Proofs.Ytjaoflfophcibaa
