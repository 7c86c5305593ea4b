/- FlowWoulds: the walk. Printed by gen_kv.py. -/
import Derived.Test.YtjaoflfophcibaaKS
import Derived.Test.YtjaoflfophcibaaKW
import Derived.Test.YtjaoflfophcibaaGO
import Derived.Test.YtjaoflfophcibaaPL
namespace Go.Proofs.Ytjaoflfophcibaa
open Go.RowKit Go.Shelf

theorem ups_okw {t : Tb} {out : Nat → Nat → Bool} (ht : Okt t) (ha : t.agree out = true) : Ups t out :=
  ⟨fun c g hc hg => by
    have h := ht.ct c g hc hg
    have h2 : 0 ≤ (t.own out c g).1 := by unfold Tb.own; split <;> omega
    unfold Tb.up meetR
    simp only
    omega, fun c g hc hg => agree_ne ha (by have := ht.ng2; omega) c g hc hg⟩
theorem ends_bnd2 {P D : Nat → Bool} {r : R2} (X : World) (h : IvS (fun m => P m && D m) r) (hi : InB r) :
    Calls Try.prog 26 #[.agg (stA fun m => P m && D m)] X fun e w' => e = .returned (.tuple #[.agg #[.int .i64 r.1, .int .i64 r.2], .bool true]) ∧ Below X.heap.size X w' := by
  refine (ends_any _ X).mono ?_
  rintro e w' ⟨lo, hh, rfl, hep, hb⟩
  obtain ⟨rfl, rfl⟩ := ends_eq hep h hi
  have h1 := hi.lo; have h2 := hi.ne
  refine ⟨?_, hb⟩
  rw [decide_eq_true (by omega : (0 : Int) ≤ r.2)]
theorem wOff_one (c g : Nat) : wOff (fun _ => c) (fun _ => g) 1 = outC c g := by
  funext c' g'
  show (off0 c' g' || (decide (c' = c) && decide (g' = g))) = (decide (c' = c) && decide (g' = g))
  rfl
theorem would_set {t : Tb} {c g : Nat} (ht : Okt t) (ha : t.agree (outC c g) = true) (hc : c < t.nc) (hg : g < t.ng) {P D : Nat → Bool} (hP : IvS P (t.before (outC c g) c g)) (hD : DnS t (outC c g) c g D) :
    IvS (fun m => P m && D m) (bndR t (outC c g) c g) ∧ InB (bndR t (outC c g) c g) := by
  have ho : t.own (outC c g) c g = (0, 1048576) := by
    unfold Tb.own outC
    rw [decide_eq_true rfl, decide_eq_true rfl]
    rfl
  have hu : t.up (outC c g) c g = meetR (t.before (outC c g) c g) (0, 1048576) := by
    show meetR _ (t.own (outC c g) c g) = _
    rw [ho]
  exact both_bnd ht.toR (by have := ht.nb; omega) (ups_okw ht ha) hc hg (by rw [hu]; exact hP.cut) hD
theorem would_all (v : WV) (t : Tb) (c g : Int) (X : World) (hs : t.small) (hl : WL X v t) :
    Calls Try.prog 19 #[.agg #[v.cv t, v.bv t, v.rv t, v.nv t], .agg #[.int .i64 c, .int .i64 g]] X (WouldP t c g X) := by
  by_cases hf : t.fault = 0
  · exact Would_ok v t hs c g X hl hf
  · exact Would_bad v t hs c g X hl hf
set_option maxRecDepth 100000 in
set_option maxHeartbeats 8000000 in
theorem flowWoulds_walk (u : WV) (t : Tb) (c g : Int) (w : World) (h0 : TbLaw w u t) :
    Calls Try.prog 3 #[.agg #[u.cv t, u.bv t, u.rv t, u.nv t], .int .i64 c, .int .i64 g] w fun e w' => e = .returned (.bool true) ∧ Below w.heap.size w w' := by
  have HTH : Hid (∀ X, Below w.heap.size w X → Calls Try.prog 17 #[.agg #[u.cv t, u.bv t, u.rv t, u.nv t]] X fun e w' => e = .returned (.bool t.thin) ∧ Below X.heap.size X w') := fun X hX => thin_big _ t h0.big X (h0.l.below hX)
  have HAW := Lib.hid awake_any
  obtain ⟨i0, hi0, hz0, hz1, hz2⟩ := info_parts Try.infoCellR
  obtain ⟨uca, ucc, uba, ubc, ura, urc, una, unc⟩ := u
  have HT0 := Lib.hid h0
  clear h0
  simp only [WV.cv, WV.bv, WV.rv, WV.nv] at HTH ⊢
  have HA0 : Hid (BF w (w.alloc (.cells #[.slice uca t.nc ucc, .slice uba t.nb ubc, .slice ura t.nr urc, .slice una t.nn unc] 25)) [(w.heap.size, #[.slice uca t.nc ucc, .slice uba t.nb ubc, .slice ura t.nr urc, .slice una t.nn unc], 25)]) := (BF.base w).alloc _ _
  have k0 := HA0.out.cell (.head _) 0
  have k1 := HA0.out.cell (.head _) 1
  have k2 := HA0.out.cell (.head _) 2
  have k3 := HA0.out.cell (.head _) 3
  go_enter Try.func3, Try.ntmps3
  cases hth : t.thin
  · go_wp2_with (first | (go_at_call 17; refine (HTH.out _ HA0.out.fr).mono ?_; rw [hth]; rintro _ w1 ⟨rfl, hb1⟩; have HA1 := Lib.hid (HA0.out.below hb1); clear hb1) | (go_at_call 18; refine (HAW.out _).mono ?_; rintro _ w2 ⟨rfl, hb2⟩; have HB2 := Lib.hid (HA1.out.below hb2).fr; clear hb2))
    go_ret
    exact ⟨rfl, HB2.out⟩
  go_wp2_with fail
  refine (HTH.out _ HA0.out.fr).mono ?_
  rw [hth]
  rintro _ w1 ⟨rfl, hb1⟩
  have HA1 := Lib.hid (HA0.out.below hb1)
  clear k0 k1 k2 k3 hb1 HA0
  have hs := Tb.thin_small hth HT0.out.z
  have HSS := Lib.hid hs
  have sc1 : t.nc ≤ 100000 := hs.1
  have sg1 : t.ng ≤ 100000 := hs.ng
  obtain ⟨f, HF⟩ : ∃ f, Hid (t.fault = f) := ⟨_, rfl⟩
  obtain ⟨W1, W2, HWR⟩ : ∃ W1 W2, Hid (wouldR t c g = (W1, W2)) := ⟨_, _, rfl⟩
  obtain ⟨E, HWE⟩ : ∃ E, Hid (wouldE t c g = E) := ⟨_, rfl⟩
  have HTB : Hid (∀ X, Below w.heap.size w X → Calls Try.prog 20 #[.agg #[.slice uca t.nc ucc, .slice uba t.nb ubc, .slice ura t.nr urc, .slice una t.nn unc]] X fun e w' => ∃ v' : WV, e = .returned (.agg #[v'.cv t, v'.bv t, v'.rv t, v'.nv t]) ∧ WL w' v' t ∧ Below X.heap.size X w') := fun X hX => table_any ⟨uca, ucc, uba, ubc, ura, urc, una, unc⟩ t HSS.out X (HT0.out.l.below hX)
  have HWO : Hid (∀ (X : World) (v' : WV), WL X v' t → Calls Try.prog 19 #[.agg #[v'.cv t, v'.bv t, v'.rv t, v'.nv t], .agg #[.int .i64 c, .int .i64 g]] X fun e w' => e = .returned (.tuple #[.agg #[.int .i64 W1, .int .i64 W2], .int .i64 E]) ∧ Below X.heap.size X w') := fun X v' h => by
    have h2 := would_all v' t c g X HSS.out h
    unfold WouldP at h2
    rw [HWR.out, HWE.out] at h2
    exact h2
  have HFT : Hid (∀ X, Below w.heap.size w X → Calls Try.prog 21 #[.agg #[.slice uca t.nc ucc, .slice uba t.nb ubc, .slice ura t.nr urc, .slice una t.nn unc]] X fun e w' => e = .returned (.int .i64 f) ∧ Below X.heap.size X w') := fun X hX => by
    have h2 := lfault_any ⟨uca, ucc, uba, ubc, ura, urc, una, unc⟩ t HSS.out X (HT0.out.l.below hX)
    rw [HF.out] at h2
    exact h2
  have HGR : Hid (∀ X, Below w.heap.size w X → Calls Try.prog 23 #[.agg #[.slice uca t.nc ucc, .slice uba t.nb ubc, .slice ura t.nr urc, .slice una t.nn unc]] X fun e w' => e = .returned (.int .i64 (t.ng : Nat)) ∧ Below X.heap.size X w') := fun X hX => rgroups_any _ t X (HT0.out.l.below hX).tb HSS.out
  clear HTH hs hth
  simp only [WV.cv, WV.bv, WV.rv, WV.nv] at HTB HWO HGR HFT
  have k0 := HA1.out.cell (.head _) 0
  have k1 := HA1.out.cell (.head _) 1
  have k2 := HA1.out.cell (.head _) 2
  have k3 := HA1.out.cell (.head _) 3
  go_wp2_with fail
  refine (HTB.out _ HA1.out.fr).mono ?_
  rintro _ w2 ⟨v2, rfl, hl2, hb2⟩
  go_wp2_with fail
  refine (HWO.out _ _ hl2).mono ?_
  rintro _ w3 ⟨rfl, hb3⟩
  have HB3 := Lib.hid ((HA1.out.below hb2).below hb3)
  have HA4 : Hid (BF w (w3.alloc (.cells #[.int .i64 W1, .int .i64 W2] 29)) ((w3.heap.size, #[.int .i64 W1, .int .i64 W2], 29) :: [(w.heap.size, #[.slice uca t.nc ucc, .slice uba t.nb ubc, .slice ura t.nr urc, .slice una t.nn unc], 25)])) := HB3.out.alloc _ _
  clear k0 k1 k2 k3 hl2 hb2 hb3 HA1 HWO HTB
  have k0 := HB3.out.cell (.head _) 0
  go_upto_region 4 with (fail)
  clear k0
  obtain ⟨R, hR⟩ : ∃ R, R = w3.heap.size := ⟨_, rfl⟩
  rw [← hR] at HA4 ⊢
  have hRn : w.heap.size < R := by rw [hR]; exact (HB3.out.lt (.head _)).2
  clear hR HB3
  generalize (w3.alloc (.cells #[.int .i64 W1, .int .i64 W2] 29)) = w4 at *
  have k0 := HA4.out.cell (.tail _ (.head _)) 0
  have k1 := HA4.out.cell (.tail _ (.head _)) 1
  have k2 := HA4.out.cell (.tail _ (.head _)) 2
  have k3 := HA4.out.cell (.tail _ (.head _)) 3
  go_wp2_with fail
  refine (HFT.out _ HA4.out.fr).mono ?_
  rintro _ w5 ⟨rfl, hb5⟩
  have HA5 := Lib.hid (HA4.out.below hb5)
  clear k0 k1 k2 k3 hb5 HA4 HFT
  have k0 := HA5.out.cell (.tail _ (.head _)) 0
  have k1 := HA5.out.cell (.tail _ (.head _)) 1
  have k2 := HA5.out.cell (.tail _ (.head _)) 2
  have k3 := HA5.out.cell (.tail _ (.head _)) 3
  obtain ⟨e1, HE1⟩ : ∃ e1, Hid ((if f = 0 then (if (inB c 0 ((t.nc : Int) - 1) && inB g 0 ((t.ng : Int) - 1)) = true then 0 else 2) else f) = e1) := ⟨_, rfl⟩
  go_upto_region 5 with (fail)
  obtain ⟨bq, HBQ⟩ : ∃ bq, Hid ((decide (f = 0) && !(inB c 0 ((t.nc : Int) - 1) && inB g 0 ((t.ng : Int) - 1))) = bq) := ⟨_, rfl⟩
  go_cut [44] (fun s44 wy => s44 = .bool bq ∧ BF w wy ((R, #[.int .i64 W1, .int .i64 W2], 29) :: [(w.heap.size, #[.slice uca t.nc ucc, .slice uba t.nb ubc, .slice ura t.nr urc, .slice una t.nn unc], 25)]))
  case first => as_aux_lemma =>
    by_cases hf0 : f = 0
    · subst hf0
      have h1 := HBQ.out
      rw [decide_eq_true rfl, Bool.true_and] at h1
      have hm1 : IntKind.i64.wrap ((t.nc : Int) - 1) = (t.nc : Int) - 1 := IntWalk.i64_in _ (by omega)
      have hm2 : IntKind.i64.wrap ((t.ng : Int) - 1) = (t.ng : Int) - 1 := IntWalk.i64_in _ (by omega)
      cases hib : inB c 0 ((t.nc : Int) - 1)
      · rw [hib, Bool.false_and] at h1
        subst h1
        clear hm1 hm2
        go_wp2_with (go_at_call 22; refine (rIn_any _ _ _ _).mono ?_; rw [hib]; rintro _ _ ⟨rfl, rfl⟩)
        go_meet
        exact ⟨by trivial, HA5.out⟩
      · rw [hib, Bool.true_and] at h1
        clear hm1 hm2
        cases hig : inB g 0 ((t.ng : Int) - 1)
        all_goals
          rw [hig] at h1
          subst h1
          go_wp2_with (first | (go_at_call 22; refine (rIn_any _ _ _ _).mono ?_; (first | rw [hib] | rw [hig]); rintro _ _ ⟨rfl, rfl⟩) | (go_at_call 23; refine (HGR.out _ HA5.out.fr).mono ?_; rintro _ w6 ⟨rfl, hb6⟩; have HA6 := Lib.hid (HA5.out.below hb6); clear hb6))
          go_meet
          exact ⟨by trivial, HA6.out⟩
    · have hq : (f == 0) = false := by simpa using hf0
      have h1 := HBQ.out
      rw [decide_eq_false hf0, Bool.false_and] at h1
      subst h1
      go_wp2_with fail
      go_meet
      exact ⟨by trivial, HA5.out⟩
  rename World => w5a
  obtain ⟨rfl, hbf⟩ := hcut
  have HA5a := Lib.hid hbf
  clear hbf
  go_upto_if 44 with (fail)
  go_cut [9] (fun s9 wy => s9 = .int .i64 e1 ∧ BF w wy ((R, #[.int .i64 W1, .int .i64 W2], 29) :: [(w.heap.size, #[.slice uca t.nc ucc, .slice uba t.nb ubc, .slice ura t.nr urc, .slice una t.nn unc], 25)]))
  case first => as_aux_lemma =>
    have h1 := HBQ.out
    have h3 := HE1.out
    cases bq
    · have h2 : f = e1 := by
        by_cases hf0 : f = 0
        · rw [decide_eq_true hf0, Bool.true_and] at h1
          rw [if_pos hf0, if_pos (by simpa using h1)] at h3
          exact hf0.trans h3
        · rw [if_neg hf0] at h3
          exact h3
      subst h2
      clear h1 h3
      go_wp2_with fail
      go_meet
      exact ⟨rfl, HA5a.out⟩
    · have h2 : 2 = e1 := by
        simp only [Bool.and_eq_true, decide_eq_true_eq, Bool.not_eq_true'] at h1
        rw [if_pos h1.1, if_neg (by rw [h1.2]; decide)] at h3
        exact h3
      subst h2
      clear h1 h3
      go_wp2_with fail
      go_meet
      exact ⟨rfl, HA5a.out⟩
  rename World => w6
  obtain ⟨rfl, hbf⟩ := hcut
  have HA6 := Lib.hid hbf
  clear k0 k1 k2 k3 hbf HA5 HA5a HGR HBQ
  have HX7 : Hid (BF w (w6.alloc (.cells #[.int .i64 0, .int .i64 0] 43)) ((w6.heap.size, #[.int .i64 0, .int .i64 0], 43) :: (R, #[.int .i64 W1, .int .i64 W2], 29) :: [(w.heap.size, #[.slice uca t.nc ucc, .slice uba t.nb ubc, .slice ura t.nr urc, .slice una t.nn unc], 25)])) := HA6.out.alloc _ _
  go_upto_if 46 with (fail)
  obtain ⟨D, hD⟩ : ∃ D, D = w6.heap.size := ⟨_, rfl⟩
  rw [← hD] at HX7 ⊢
  have hDn : R < D := by rw [hD]; exact (HA6.out.lt (.head _)).2
  clear hD HA6
  generalize (w6.alloc (.cells #[.int .i64 0, .int .i64 0] 43)) = w7 at *
  go_cut [9] (fun s9 wy => s9 = .int .i64 E ∧ BF w wy [(D, #[.int .i64 W1, .int .i64 W2], 43), (R, #[.int .i64 W1, .int .i64 W2], 29), (w.heap.size, #[.slice uca t.nc ucc, .slice uba t.nb ubc, .slice ura t.nr urc, .slice una t.nn unc], 25)])
  case first => as_aux_lemma =>
    by_cases he0 : e1 = 0
    · subst he0
      have hfr : t.fault = 0 ∧ (inB c 0 ((t.nc : Int) - 1) = true ∧ inB g 0 ((t.ng : Int) - 1) = true) := by
        have h1 := HE1.out
        by_cases hf : f = 0
        · rw [if_pos hf] at h1
          refine ⟨HF.out.trans hf, ?_⟩
          by_cases e : (inB c 0 ((t.nc : Int) - 1) && inB g 0 ((t.ng : Int) - 1)) = true
          · rw [Bool.and_eq_true] at e; exact e
          · rw [if_neg e] at h1; cases h1
        · rw [if_neg hf] at h1; exact absurd h1 hf
      obtain ⟨hft, hcb, hgb⟩ := hfr
      have hok := Okt.of_fault hft
      have ng2 := hok.ng2; have ng4 := hok.ng4; have nc4 := hok.nc4; have nc1 := hok.nc1
      have hc1 : 0 ≤ c ∧ c ≤ (t.nc : Int) - 1 := by unfold inB at hcb; simp only [Bool.and_eq_true, decide_eq_true_eq] at hcb; exact hcb
      have hg1 : 0 ≤ g ∧ g ≤ (t.ng : Int) - 1 := by unfold inB at hgb; simp only [Bool.and_eq_true, decide_eq_true_eq] at hgb; exact hgb
      obtain ⟨cn, rfl⟩ := Int.eq_ofNat_of_zero_le hc1.1
      obtain ⟨gn, rfl⟩ := Int.eq_ofNat_of_zero_le hg1.1
      have hcn : cn < t.nc := by omega
      have hgn : gn < t.ng := by omega
      have HEE : Hid (E = if t.agree (outC cn gn) = true then 0 else 9) := by
        rw [Hid, ← HWE.out]
        unfold wouldE
        rw [if_neg (by rw [hft]; simp), hcb, hgb, Int.toNat_natCast, Int.toNat_natCast]
        rfl
      have HRR : Hid ((W1, W2) = if t.agree (outC cn gn) = true then bndR t (outC cn gn) cn gn else (0, 0)) := by
        rw [Hid, ← HWR.out]
        unfold wouldR
        rw [HWE.out, HEE.out, Int.toNat_natCast, Int.toNat_natCast]
        by_cases e : t.agree (outC cn gn) = true
        · rw [if_pos e, if_pos e, if_pos rfl]
        · rw [if_neg e, if_neg e, if_neg (by decide)]
      have HOK := Lib.hid hok
      obtain ⟨o, HO⟩ : ∃ o, Hid (outC cn gn = o) := ⟨_, rfl⟩
      have HWT : Hid (∀ X, Calls Try.prog 24 #[.slice (some ⟨X.heap.size, 0, none⟩) 1 1] (X.alloc (.cells #[.int .i64 (cn : Int), .int .i64 (gn : Int)] 48)) fun e w' => e = .returned (.agg (outL o).toArray) ∧ Below X.heap.size X w') := fun X => by
        have hb : BF X (X.alloc (.cells #[.int .i64 (cn : Int), .int .i64 (gn : Int)] 48)) [(X.heap.size, #[.int .i64 (cn : Int), .int .i64 (gn : Int)], 48)] := (BF.base X).alloc _ _
        have h := without_any (some ⟨X.heap.size, 0, none⟩) 1 1 (fun _ => cn) (fun _ => gn) _ (.inr ⟨_, _, _, rfl, (hb.lt (.head _)).2, fun j hj => by
          obtain rfl : j = 0 := by omega
          exact ⟨hb.cell (.head _) 0, hb.cell (.head _) 1⟩⟩) (fun j hj => ⟨by omega, by omega⟩) (by omega)
        rw [wOff_one, HO.out] at h
        refine h.mono ?_
        rintro e w' ⟨rfl, h2⟩
        exact ⟨rfl, below_step (below_alloc _ _) h2⟩
      have HAG : Hid (∀ X, Below w.heap.size w X → Calls Try.prog 25 #[.agg #[.slice uca t.nc ucc, .slice uba t.nb ubc, .slice ura t.nr urc, .slice una t.nn unc], .agg (outL o).toArray] X fun e w' => e = .returned (.bool (t.agree o)) ∧ Below X.heap.size X w') := fun X hX => ragree_any ⟨uca, ucc, uba, ubc, ura, urc, una, unc⟩ t o X (HT0.out.l.below hX) HOK.out.toR HSS.out
      have HFR : Hid (∀ X, Below w.heap.size w X → Calls Try.prog 28 #[.agg #[.slice uca t.nc ucc, .slice uba t.nb ubc, .slice ura t.nr urc, .slice una t.nn unc], .int .i64 (cn : Int), .int .i64 (gn : Int), .agg (outL o).toArray] X fun e w' => ∃ q, e = .returned (.agg (stA q)) ∧ IvS q (t.before o cn gn) ∧ Below X.heap.size X w') := fun X hX => rfree_all o HOK.out.toR HSS.out cn hcn ⟨uca, ucc, uba, ubc, ura, urc, una, unc⟩ gn X (HT0.out.l.below hX) hgn
      have HDN : Hid (t.agree o = true → ∀ X, Below w.heap.size w X → Calls Try.prog 29 #[.agg #[.slice uca t.nc ucc, .slice uba t.nb ubc, .slice ura t.nr urc, .slice una t.nn unc], .int .i64 (cn : Int), .int .i64 (gn : Int), .agg (outL o).toArray] X fun e w' => ∃ q, e = .returned (.agg (stA q)) ∧ DnS t o cn gn q ∧ Below X.heap.size X w') := fun ha X hX => down_all HOK.out.toR HSS.out (by have := HOK.out.nb; omega) (ups_okw HOK.out ha) (t.nc - 1 - cn) cn (by omega) ⟨uca, ucc, uba, ubc, ura, urc, una, unc⟩ gn X (HT0.out.l.below hX) hgn
      have HEN : Hid (t.agree o = true → ∀ P D X, IvS P (t.before o cn gn) → DnS t o cn gn D → Calls Try.prog 26 #[.agg (stA fun m => P m && D m)] X fun e w' => e = .returned (.tuple #[.agg #[.int .i64 W1, .int .i64 W2], .bool true]) ∧ Below X.heap.size X w') := fun ha P D X h1 h2 => by
        rw [← HO.out] at ha h1 h2
        obtain ⟨h3, h4⟩ := would_set HOK.out ha hcn hgn h1 h2
        have h5 := HRR.out
        rw [if_pos ha] at h5
        rw [← h5] at h3 h4
        exact ends_bnd2 X h3 h4
      rw [HO.out] at HEE HRR
      obtain ⟨ag, hag⟩ : ∃ ag, t.agree o = ag := ⟨_, rfl⟩
      rw [hag] at HAG HDN HEN HEE HRR
      clear hft hcb hgb hok hc1 hg1 hcn hgn HE1 HF HWR HWE hag HO HSS HT0 HOK sc1 sg1
      go_wp2_with fail
      refine (HWT.out _).mono ?_
      rintro _ w8 ⟨rfl, hb8⟩
      have HX8 := Lib.hid (HX7.out.below hb8)
      clear hb8 HX7 HWT
      have hol : (outL off0).toArray = #[.bool false, .bool false, .bool false, .bool false, .bool false, .bool false, .bool false, .bool false, .bool false, .bool false, .bool false, .bool false, .bool false, .bool false, .bool false, .bool false] := rfl
      have HX9 : Hid (BF w (w8.alloc (.cells #[.bool false, .bool false, .bool false, .bool false, .bool false, .bool false, .bool false, .bool false, .bool false, .bool false, .bool false, .bool false, .bool false, .bool false, .bool false, .bool false] 46)) ((w8.heap.size, #[.bool false, .bool false, .bool false, .bool false, .bool false, .bool false, .bool false, .bool false, .bool false, .bool false, .bool false, .bool false, .bool false, .bool false, .bool false, .bool false], 46) :: [(D, #[.int .i64 0, .int .i64 0], 43), (R, #[.int .i64 W1, .int .i64 W2], 29), (w.heap.size, #[.slice uca t.nc ucc, .slice uba t.nb ubc, .slice ura t.nr urc, .slice una t.nn unc], 25)])) := HX8.out.alloc _ _
      have hDO : D < w8.heap.size := (HX8.out.lt (.head _)).2
      have HRO : Hid ((w8.alloc (.cells #[.bool false, .bool false, .bool false, .bool false, .bool false, .bool false, .bool false, .bool false, .bool false, .bool false, .bool false, .bool false, .bool false, .bool false, .bool false, .bool false] 46)).heap[w8.heap.size]? = some (.cells #[.bool false, .bool false, .bool false, .bool false, .bool false, .bool false, .bool false, .bool false, .bool false, .bool false, .bool false, .bool false, .bool false, .bool false, .bool false, .bool false] 46 (0, 0))) := (HX9.out.bk _ _ _ (.head _)).2
      have HSZ := Lib.hid (Try.sizeOffA o)
      have HXS : Hid (BF w ((w8.alloc (.cells #[.bool false, .bool false, .bool false, .bool false, .bool false, .bool false, .bool false, .bool false, .bool false, .bool false, .bool false, .bool false, .bool false, .bool false, .bool false, .bool false] 46)).setRow w8.heap.size (outL o).toArray) ((w8.heap.size, (outL o).toArray, 46) :: [(D, #[.int .i64 0, .int .i64 0], 43), (R, #[.int .i64 W1, .int .i64 W2], 29), (w.heap.size, #[.slice uca t.nc ucc, .slice uba t.nb ubc, .slice ura t.nr urc, .slice una t.nn unc], 25)])) := HX9.out.setrow (.head _) _ (List.forall_mem_cons.2 ⟨⟨show D ≠ w8.heap.size by omega, .tail _ (.head _)⟩, List.forall_mem_cons.2 ⟨⟨show R ≠ w8.heap.size by omega, .tail _ (.tail _ (.head _))⟩, List.forall_mem_cons.2 ⟨⟨show w.heap.size ≠ w8.heap.size by omega, .tail _ (.tail _ (.tail _ (.head _)))⟩, List.forall_mem_nil _⟩⟩⟩)
      have HRS : Hid (((w8.alloc (.cells #[.bool false, .bool false, .bool false, .bool false, .bool false, .bool false, .bool false, .bool false, .bool false, .bool false, .bool false, .bool false, .bool false, .bool false, .bool false, .bool false] 46)).setRow w8.heap.size (outL o).toArray).heap[w8.heap.size]? = some (.cells (outL o).toArray 46 (0, 0))) := (HXS.out.bk _ _ _ (.head _)).2
      have k0 := HXS.out.cell (.tail _ (.tail _ (.tail _ (.head _)))) 0; have k1 := HXS.out.cell (.tail _ (.tail _ (.tail _ (.head _)))) 1; have k2 := HXS.out.cell (.tail _ (.tail _ (.tail _ (.head _)))) 2; have k3 := HXS.out.cell (.tail _ (.tail _ (.tail _ (.head _)))) 3
      clear hol
      go_wp2_with (first | refine wpList_store_row (o := ⟨none, .store 46 (.tmp 11) (.tmp 51), _, _, _, _⟩) rfl 46 (.tmp 11) (.tmp 51) rfl (w8.heap.size) (outL o).toArray rfl rfl 46 #[.bool false, .bool false, .bool false, .bool false, .bool false, .bool false, .bool false, .bool false, .bool false, .bool false, .bool false, .bool false, .bool false, .bool false, .bool false, .bool false] HRO.out HSZ.out rfl (outL_one _) ?_ | refine wpList_load_row (o := ⟨some 53, .load 46 (.tmp 11), _, _, _, _⟩) rfl 46 (.tmp 11) rfl (w8.heap.size) rfl 46 (outL o).toArray (0, 0) _ HRS.out Try.underlying46 rfl HSZ.out ?_)
      refine (HAG.out _ HXS.out.fr).mono ?_
      rintro _ w9 ⟨rfl, hb9⟩
      have HX10 := Lib.hid (HXS.out.below hb9)
      clear hb9 k0 k1 k2 k3 HAG HRO HRS HXS HX9 HX8
      obtain ⟨O, hO⟩ : ∃ O, O = w8.heap.size := ⟨_, rfl⟩
      rw [← hO] at HX10 hDO ⊢
      clear hO
      cases ag
      · have h1 := HEE.out
        have h2 := HRR.out
        rw [if_neg (by decide)] at h1 h2
        cases h2
        subst h1
        clear HEE HRR HDN HEN HFR
        go_wp2_with fail
        go_meet
        exact ⟨rfl, HX10.out.sub (fun _ hp => .tail _ hp)⟩
      have h1 := HEE.out
      rw [if_pos rfl] at h1
      subst h1
      have HDN2 := Lib.hid (HDN.out rfl); have HEN2 := Lib.hid (HEN.out rfl)
      clear HEE HRR HDN HEN
      have HC12 : Hid (∀ X, BF w X ((O, (outL o).toArray, 46) :: [(D, #[.int .i64 0, .int .i64 0], 43), (R, #[.int .i64 W1, .int .i64 W2], 29), (w.heap.size, #[.slice uca t.nc ucc, .slice uba t.nb ubc, .slice ura t.nr urc, .slice una t.nn unc], 25)]) → (X.cell? ⟨w.heap.size, 0, none⟩ = some (.slice uca t.nc ucc) ∧ X.cell? ⟨w.heap.size, 1, none⟩ = some (.slice uba t.nb ubc) ∧ X.cell? ⟨w.heap.size, 2, none⟩ = some (.slice ura t.nr urc) ∧ X.cell? ⟨w.heap.size, 3, none⟩ = some (.slice una t.nn unc) ∧ X.rangeAt O 0 (outL o))) := fun X h => ⟨h.cell (.tail _ (.tail _ (.tail _ (.head _)))) 0, h.cell (.tail _ (.tail _ (.tail _ (.head _)))) 1, h.cell (.tail _ (.tail _ (.tail _ (.head _)))) 2, h.cell (.tail _ (.tail _ (.tail _ (.head _)))) 3, row_range (h.bk _ _ _ (.head _)).2⟩
      have HC12b : Hid (∀ X, BF w X [(D, #[.int .i64 W1, .int .i64 W2], 43), (O, (outL o).toArray, 46), (R, #[.int .i64 W1, .int .i64 W2], 29), (w.heap.size, #[.slice uca t.nc ucc, .slice uba t.nb ubc, .slice ura t.nr urc, .slice una t.nn unc], 25)] → (X.cell? ⟨w.heap.size, 0, none⟩ = some (.slice uca t.nc ucc) ∧ X.cell? ⟨w.heap.size, 1, none⟩ = some (.slice uba t.nb ubc) ∧ X.cell? ⟨w.heap.size, 2, none⟩ = some (.slice ura t.nr urc) ∧ X.cell? ⟨w.heap.size, 3, none⟩ = some (.slice una t.nn unc) ∧ X.rangeAt O 0 (outL o))) := fun X h => ⟨h.cell (.tail _ (.tail _ (.tail _ (.head _)))) 0, h.cell (.tail _ (.tail _ (.tail _ (.head _)))) 1, h.cell (.tail _ (.tail _ (.tail _ (.head _)))) 2, h.cell (.tail _ (.tail _ (.tail _ (.head _)))) 3, row_range (h.bk _ _ _ (.tail _ (.head _))).2⟩
      go_wp2_with fail
      have HAX := Lib.hid (HX10.out.below (Below.refl _ w9).drew)
      refine wp_region_Z (S := fun X => X.cell? ⟨w.heap.size, 0, none⟩ = some (.slice uca t.nc ucc) ∧ X.cell? ⟨w.heap.size, 1, none⟩ = some (.slice uba t.nb ubc) ∧ X.cell? ⟨w.heap.size, 2, none⟩ = some (.slice ura t.nr urc) ∧ X.cell? ⟨w.heap.size, 3, none⟩ = some (.slice una t.nn unc) ∧ X.rangeAt O 0 (outL o)) (by kernel_rfl) (HC12.out _ HAX.out) (fun hS => ?_)
      generalize w9.drew = X at *
      refine tk [0, 1, 2] ?_
      repeat (refine tkZ (oi := ⟨_, _, _, _, _, _⟩) (v := ?_) rfl (by kernel_rfl) (by rfl) (fun _ _ _ h => h) hS ?_ ?_; rotate_left; (· rintro W' ⟨z0, z1, z2, z3, z4⟩; go_simp; try with_reducible rfl); try simp only [Act.put, putA, putZ, putS])
      refine tk0 ?_
      refine wpAnyZ_take (i := 3) (oi := ⟨some 60, _, _, _, _, _⟩) (v := .agg (outL o).toArray) rfl (by kernel_rfl) (by kernel_rfl) (by kernel_rfl) (fun _ _ _ h => h) (ld_off o (by rfl) (.tmp 11) rfl O rfl (fun _ h => h.2.2.2.2)) hS ?_
      try simp only [Act.put, putA, putZ, putS]
      refine tk [5, 6, 7] ?_
      repeat (refine tkZ (oi := ⟨_, _, _, _, _, _⟩) (v := ?_) rfl (by kernel_rfl) (by rfl) (fun _ _ _ h => h) hS ?_ ?_; rotate_left; (· rintro W' ⟨z0, z1, z2, z3, z4⟩; go_simp; try with_reducible rfl); try simp only [Act.put, putA, putZ, putS])
      refine tk0 ?_
      refine wpAnyZ_take (i := 8) (oi := ⟨some 65, _, _, _, _, _⟩) (v := .agg (outL o).toArray) rfl (by kernel_rfl) (by kernel_rfl) (by kernel_rfl) (fun _ _ _ h => h) (ld_off o (by rfl) (.tmp 11) rfl O rfl (fun _ h => h.2.2.2.2)) hS ?_
      try simp only [Act.put, putA, putZ, putS]
      refine wpAnyZ_next (rs := [4]) (by kernel_rfl) (by simp) ?_
      refine NextZ.cons (o := ⟨some 61, _, _, _, _, _⟩) rfl (fun K hK => ?_) NextZ.nil
      go_simp
      refine (HFR.out _ HAX.out.fr).mono ?_
      rintro _ X0 ⟨P, rfl, hP, hb0⟩
      (try go_wp2_with fail)
      have HA0 := Lib.hid (HAX.out.below hb0)
      have HP := Lib.hid hP
      clear hP
      refine hK.out _ _ (HC12.out X0 HA0.out) (fun hS => ?_)
      clear hK K
      try simp only [Act.put, putA, putZ, putS]
      clear hb0
      refine wpAnyZ_next (rs := [9]) (by kernel_rfl) (by simp) ?_
      refine NextZ.cons (o := ⟨some 66, _, _, _, _, _⟩) rfl (fun K hK => ?_) NextZ.nil
      go_simp
      refine (HDN2.out _ HA0.out.fr).mono ?_
      rintro _ X1 ⟨Q, rfl, hD, hb1⟩
      (try go_wp2_with fail)
      have HA1 := Lib.hid (HA0.out.below hb1)
      have HD := Lib.hid hD
      clear hD
      refine hK.out _ _ (HC12.out X1 HA1.out) (fun hS => ?_)
      clear hK K
      try simp only [Act.put, putA, putZ, putS]
      clear hb1
      refine wpAnyZ_next (rs := [10]) (by kernel_rfl) (by simp) ?_
      refine NextZ.cons (o := ⟨some 67, _, _, _, _, _⟩) rfl (fun K hK => ?_) NextZ.nil
      go_simp
      refine (both_any P Q _).mono ?_
      rintro _ X2 ⟨rfl, hb2⟩
      (try go_wp2_with fail)
      have HA2 := Lib.hid (HA1.out.below hb2)
      refine hK.out _ _ (HC12.out X2 HA2.out) (fun hS => ?_)
      clear hK K
      try simp only [Act.put, putA, putZ, putS]
      clear hb2
      refine wpAnyZ_next (rs := [11]) (by kernel_rfl) (by simp) ?_
      refine NextZ.cons (o := ⟨some 68, _, _, _, _, _⟩) rfl (fun K hK => ?_) NextZ.nil
      go_simp
      refine (HEN2.out P Q _ HP.out HD.out).mono ?_
      rintro _ X3 ⟨rfl, hb3⟩
      (try go_wp2_with fail)
      have HA3 := Lib.hid (HA2.out.below hb3)
      refine hK.out _ _ (HC12.out X3 HA3.out) (fun hS => ?_)
      clear hK K
      try simp only [Act.put, putA, putZ, putS]
      clear hb3
      refine tk [12, 13, 14] ?_
      repeat (refine tkZ (oi := ⟨_, _, _, _, _, _⟩) (v := ?_) rfl (by kernel_rfl) (by rfl) (fun _ _ _ h => h) hS ?_ ?_; rotate_left; (· rintro W' ⟨z0, z1, z2, z3, z4⟩; go_simp; try with_reducible rfl); try simp only [Act.put, putA, putZ, putS])
      refine tk0 ?_
      refine wpAnyZ_next (rs := [15]) (by kernel_rfl) (by simp) ?_
      refine NextZ.cons (o := ⟨none, _, _, _, _, _⟩) rfl (fun K hK => ?_) NextZ.nil
      have e0 := HA3.out.cell (.tail _ (.head _)) 0
      have f0 := HA3.out.thaw (.tail _ (.head _)) 0
      have e1 := HA3.out.cell (.tail _ (.head _)) 1
      have f1 := HA3.out.thaw (.tail _ (.head _)) 1
      have HA4 : Hid (BF w ((X3.setCell ⟨D, 0, none⟩ (.int .i64 W1)).setCell ⟨D, 1, none⟩ (.int .i64 W2)) [(D, #[.int .i64 W1, .int .i64 W2], 43), (O, (outL o).toArray, 46), (R, #[.int .i64 W1, .int .i64 W2], 29), (w.heap.size, #[.slice uca t.nc ucc, .slice uba t.nb ubc, .slice ura t.nr urc, .slice una t.nn unc], 25)]) := BF.set2 HA3.out (.tail _ (.head _)) (.int .i64 W1) (.int .i64 W2) (List.forall_mem_cons.2 ⟨⟨show O ≠ D by omega, (.head _)⟩, List.forall_mem_cons.2 ⟨⟨show R ≠ D by omega, (.tail _ (.tail _ (.head _)))⟩, List.forall_mem_cons.2 ⟨⟨show w.heap.size ≠ D by omega, (.tail _ (.tail _ (.tail _ (.head _))))⟩, List.forall_mem_nil _⟩⟩⟩)
      go_simp
      refine hK.out _ _ (HC12b.out ((X3.setCell ⟨D, 0, none⟩ (.int .i64 W1)).setCell ⟨D, 1, none⟩ (.int .i64 W2)) HA4.out) (fun hS => ?_)
      clear hK K
      (try simp only [Act.put])
      clear e0 e1 f0 f1
      refine wpAnyZ_done (by kernel_rfl) ?_ _
      go_wp2_with fail
      go_meet
      exact ⟨rfl, HA4.out.sub (List.forall_mem_cons.2 ⟨(.head _), List.forall_mem_cons.2 ⟨(.tail _ (.tail _ (.head _))), List.forall_mem_cons.2 ⟨(.tail _ (.tail _ (.tail _ (.head _)))), List.forall_mem_nil _⟩⟩⟩)⟩
    · have hq : (e1 == 0) = false := by simpa using he0
      have hee : E = e1 ∧ W1 = 0 ∧ W2 = 0 := by
        have h1 := HE1.out
        have hE : wouldE t c g = e1 := by
          rw [← h1]
          unfold wouldE
          by_cases hf : f = 0
          · rw [if_pos hf] at h1 ⊢
            rw [if_neg (by rw [HF.out]; simpa using hf)]
            by_cases e : (inB c 0 ((t.nc : Int) - 1) && inB g 0 ((t.ng : Int) - 1)) = true
            · rw [if_pos e] at h1; exact absurd h1.symm he0
            · rw [if_neg e, if_neg e]
          · rw [if_neg hf, if_pos (by rw [HF.out]; exact hf)]
            exact HF.out
        have hR := HWR.out
        unfold wouldR at hR
        rw [hE, if_neg he0] at hR
        cases hR
        exact ⟨HWE.out.symm.trans hE, rfl, rfl⟩
      obtain ⟨rfl, rfl, rfl⟩ := hee
      clear HE1 HF HWR HWE HSS HT0 he0
      go_wp2_with fail
      go_meet
      exact ⟨rfl, HX7.out⟩
  rename World => w9
  obtain ⟨rfl, hbf⟩ := hcut
  have HA9 := Lib.hid hbf
  clear hbf HX7
  have HC13 : Hid (∀ X, BF w X [(D, #[.int .i64 W1, .int .i64 W2], 43), (R, #[.int .i64 W1, .int .i64 W2], 29), (w.heap.size, #[.slice uca t.nc ucc, .slice uba t.nb ubc, .slice ura t.nr urc, .slice una t.nn unc], 25)] → (X.cell? ⟨R, 0, none⟩ = some (.int .i64 W1) ∧ X.cell? ⟨R, 1, none⟩ = some (.int .i64 W2) ∧ X.cell? ⟨D, 0, none⟩ = some (.int .i64 W1) ∧ X.cell? ⟨D, 1, none⟩ = some (.int .i64 W2))) := fun X h => ⟨h.cell (.tail _ (.head _)) 0, h.cell (.tail _ (.head _)) 1, h.cell (.head _) 0, h.cell (.head _) 1⟩
  go_wp2_with fail
  have HAX := Lib.hid (HA9.out.below (Below.refl _ w9).drew)
  refine wp_region_held_drew (S := fun X => X.cell? ⟨R, 0, none⟩ = some (.int .i64 W1) ∧ X.cell? ⟨R, 1, none⟩ = some (.int .i64 W2) ∧ X.cell? ⟨D, 0, none⟩ = some (.int .i64 W1) ∧ X.cell? ⟨D, 1, none⟩ = some (.int .i64 W2)) (by kernel_rfl) (HC13.out _ HAX.out) (fun hS => ?_)
  generalize w9.drew = X at *
  refine tk [0, 1] ?_
  repeat (refine tkH (oi := ⟨_, _, _, _, _, _⟩) (v := ?_) rfl (by kernel_rfl) (by rfl) (fun _ _ _ h => h) hS ?_ ?_; rotate_left; (· rintro W' ⟨z0, z1, z2, z3⟩; go_simp; try with_reducible rfl); try simp only [Act.put, putA, putZ, putS])
  refine tk0 ?_
  refine tH 2 (oi := ⟨_, _, _, _, _, _⟩) (v := .bool true) rfl (by kernel_rfl) (by rfl) (fun _ _ _ h => h) hS ?_ ?_
  · rintro W' ⟨z0, z1, z2, z3⟩; go_simp; (try simp)
  try simp only [Act.put, putA, putZ, putS]
  refine tk [3, 4, 5] ?_
  repeat (refine tkH (oi := ⟨_, _, _, _, _, _⟩) (v := ?_) rfl (by kernel_rfl) (by rfl) (fun _ _ _ h => h) hS ?_ ?_; rotate_left; (· rintro W' ⟨z0, z1, z2, z3⟩; go_simp; try with_reducible rfl); try simp only [Act.put, putA, putZ, putS])
  refine tk0 ?_
  refine wpAnyH_ready (rs := [6]) (by kernel_rfl) (by simp) ?_
  refine AllReadyH.cons (o := ⟨some 77, _, _, _, _, _⟩) rfl (fun K hK => ?_) AllReadyH.nil
  go_simp
  refine (to_any W1 W2 _).mono ?_
  rintro _ X0 ⟨rfl, hb0⟩
  (try go_wp2_with fail)
  have HA0 := Lib.hid (HAX.out.below hb0)
  refine hK.out _ _ (HC13.out X0 HA0.out) (fun hS => ?_)
  clear hK K
  try simp only [Act.put, putA, putZ, putS]
  clear hb0
  refine tH 7 (oi := ⟨_, _, _, _, _, _⟩) (v := .bool true) rfl (by kernel_rfl) (by rfl) (fun _ _ _ h => h) hS ?_ ?_
  · rintro W' ⟨z0, z1, z2, z3⟩; have hq := eq_range_ok W1 W2 W'; go_simp
  try simp only [Act.put, putA, putZ, putS]
  refine tk [8, 9] ?_
  repeat (refine tkH (oi := ⟨_, _, _, _, _, _⟩) (v := ?_) rfl (by kernel_rfl) (by rfl) (fun _ _ _ h => h) hS ?_ ?_; rotate_left; (· rintro W' ⟨z0, z1, z2, z3⟩; go_simp; try with_reducible rfl); try simp only [Act.put, putA, putZ, putS])
  refine tk0 ?_
  refine wpAnyH_ready (rs := [10]) (by kernel_rfl) (by simp) ?_
  refine AllReadyH.cons (o := ⟨some 81, _, _, _, _, _⟩) rfl (fun K hK => ?_) AllReadyH.nil
  go_simp
  refine (HAW.out _).mono ?_
  rintro _ X1 ⟨rfl, hb1⟩
  (try go_wp2_with fail)
  have HA1 := Lib.hid (HA0.out.below hb1)
  refine hK.out _ _ (HC13.out X1 HA1.out) (fun hS => ?_)
  clear hK K
  try simp only [Act.put, putA, putZ, putS]
  clear hb1
  refine tk [11, 12] ?_
  repeat (refine tkH (oi := ⟨_, _, _, _, _, _⟩) (v := ?_) rfl (by kernel_rfl) (by rfl) (fun _ _ _ h => h) hS ?_ ?_; rotate_left; (· rintro W' ⟨z0, z1, z2, z3⟩; go_simp; try with_reducible rfl); try simp only [Act.put, putA, putZ, putS])
  refine tk0 ?_
  refine wpAnyH_done (by kernel_rfl) ?_ _
  go_wp2_with fail
  go_ret
  exact ⟨rfl, HA1.out.fr⟩
end Go.Proofs.Ytjaoflfophcibaa
