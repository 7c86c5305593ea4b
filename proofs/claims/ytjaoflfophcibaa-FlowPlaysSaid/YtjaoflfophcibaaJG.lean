/- FlowPlays: the walk. Printed by gen_jg.py. -/
import Derived.Test.YtjaoflfophcibaaJF
import Derived.Test.YtjaoflfophcibaaJD
import Derived.Test.YtjaoflfophcibaaJE
import Derived.Test.YtjaoflfophcibaaGO
import Derived.Test.YtjaoflfophcibaaPM
namespace Go.Proofs.Ytjaoflfophcibaa
open Go.RowKit Go.Shelf

/-- The error that is wanted. -/
def wantE (t : Tb) (x : Tr) : Int := if t.fault = 0 then (if t.isTr x = true then 0 else 2) else t.fault
/-- What Play returns. -/
def PlP (t : Tb) (x : Tr) (W : World) (sv : Value) (sn : Nat) (cn : Bool) (er : Int) : Prop :=
  (wantE t x ≠ 0 ∧ er = wantE t x ∧ sn = 0 ∧ cn = false) ∨ (wantE t x = 0 ∧ er = 0 ∧ sn = t.nb + 1 ∧ cn = canC t x t.nb ∧ IRows W sv (t.nb + 1) (fun _ => t.ng) (siz t.ng x))
theorem PlP.below {t : Tb} {x : Tr} {W W' : World} {sv : Value} {sn : Nat} {cn : Bool} {er : Int} (h : PlP t x W sv sn cn er) (hb : Below W.heap.size W W') : PlP t x W' sv sn cn er := by
  rcases h with h | ⟨h1, h2, h3, h4, h5⟩
  · exact .inl h
  · exact .inr ⟨h1, h2, h3, h4, h5.below hb⟩
theorem play_two (u : WV) (t : Tb) (y : XV) (x : Tr) (hs : t.small) (hsm : TrSm x) (w : World) (hl : WL w u t) (hx : XL w y x) :
    Calls Try.prog 48 #[.agg #[u.cv t, u.bv t, u.rv t, u.nv t], .agg #[.slice y.fa x.nf y.fc, .slice y.ba x.nb y.bc, .slice y.da x.nd y.dc, .slice y.ma x.nm y.mc]] w fun e w' => ∃ sa sn sc cn er, e = .returned (.tuple #[.slice sa sn sc, .bool cn, .int .i64 er]) ∧ PlP t x w' (.slice sa sn sc) sn cn er ∧ Below w.heap.size w w' := by
  by_cases hf : t.fault = 0
  · cases hn : t.isTr x
    · have hw : wantE t x = 2 := by unfold wantE; rw [if_pos hf, hn]; rfl
      refine (Play_not u t y x hs w hl hx hf hsm hn).mono ?_
      rintro e w' ⟨rfl, hb⟩
      exact ⟨_, _, _, _, _, rfl, .inl ⟨by rw [hw]; decide, hw.symm, rfl, rfl⟩, hb⟩
    · have hw : wantE t x = 0 := by unfold wantE; rw [if_pos hf, hn]; rfl
      refine (Play_ok u t y x hs w hl hx hf hsm hn).mono ?_
      rintro e w' ⟨v, rfl, hir, hb⟩
      obtain ⟨sa, sc, rfl⟩ := hir.slice
      exact ⟨_, _, _, _, _, rfl, .inr ⟨hw, rfl, rfl, rfl, hir⟩, hb⟩
  · have hw : wantE t x = t.fault := if_neg hf
    refine (Play_bad u t hs w hl _ _ _ _ ⟨_, _, _, _, _, _, _, _, _, _, _, _, rfl, rfl, rfl, rfl⟩ hf).mono ?_
    rintro e w' ⟨rfl, hb⟩
    exact ⟨_, _, _, _, _, rfl, .inl ⟨by rw [hw]; exact hf, hw.symm, rfl, rfl⟩, hb⟩
theorem prove_two (u : WV) (t : Tb) (y : XV) (x : Tr) (hs : t.small) (hsm : TrSm x) (w : World) (hl : WL w u t) (hx : XL w y x) :
    Calls Try.prog 50 #[.agg #[u.cv t, u.bv t, u.rv t, u.nv t], .agg #[.slice y.fa x.nf y.fc, .slice y.ba x.nb y.bc, .slice y.da x.nd y.dc, .slice y.ma x.nm y.mc]] w fun e w' => e = .returned (.bool (t.proves x)) ∧ Below w.heap.size w w' := by
  by_cases hf : t.fault = 0
  · cases hn : t.isTr x
    · have hw : t.proves x = false := by unfold Tb.proves; rw [hn]; simp
      rw [hw]
      exact Prove_not u t y x hs w hl hx hf hsm hn
    · cases hc : canC t x t.nb
      · have hw : t.proves x = false := by unfold Tb.proves; rw [hc]; simp
        rw [hw]
        exact Prove_can u t y x hs w hl hx hf hsm hn hc
      · have hw : t.proves x = t.fits x := by unfold Tb.proves; rw [hn, hc, decide_eq_true hf]; simp
        rw [hw]
        exact Prove_fits u t y x hs w hl hx hf hsm hn hc
  · have hw : t.proves x = false := by unfold Tb.proves; rw [decide_eq_false hf]; simp
    rw [hw]
    exact Prove_bad u t hs w hl _ _ _ _ ⟨_, _, _, _, _, _, _, _, _, _, _, _, rfl, rfl, rfl, rfl⟩ hf
set_option maxRecDepth 100000 in
set_option maxHeartbeats 8000000 in
theorem flowPlays_walk (u : WV) (t : Tb) (y : XV) (x : Tr) (w : World) (h0 : TbLaw w u t) (hx : XLi w y x) (hb : x.big) :
    Calls Try.prog 14 #[.agg #[u.cv t, u.bv t, u.rv t, u.nv t], .agg #[.slice y.fa x.nf y.fc, .slice y.ba x.nb y.bc, .slice y.da x.nd y.dc, .slice y.ma x.nm y.mc]] w fun e w' => e = .returned (.bool true) ∧ Below w.heap.size w w' := by
  have HTH : Hid (∀ X, Below w.heap.size w X → Calls Try.prog 17 #[.agg #[u.cv t, u.bv t, u.rv t, u.nv t]] X fun e w' => e = .returned (.bool t.thin) ∧ Below X.heap.size X w') := fun X hX => thin_big _ t h0.big X (h0.l.below hX)
  have HSL : Hid (∀ X, Below w.heap.size w X → Calls Try.prog 46 #[.agg #[.slice y.fa x.nf y.fc, .slice y.ba x.nb y.bc, .slice y.da x.nd y.dc, .slice y.ma x.nm y.mc]] X fun e w' => e = .returned (.bool x.sm) ∧ Below X.heap.size X w') := fun X hX => small_big y x hb X (hx.below hX)
  have HAW := Lib.hid awake_any
  obtain ⟨uca, ucc, uba, ubc, ura, urc, una, unc⟩ := u
  obtain ⟨yfa, yfc, yba, ybc, yda, ydc, yma, ymc⟩ := y
  have HT0 := Lib.hid h0; have HX0 := Lib.hid hx
  clear h0 hx hb
  simp only [WV.cv, WV.bv, WV.rv, WV.nv] at HTH HSL ⊢
  have HA0 : Hid (BF w ((w.alloc (.cells #[.slice uca t.nc ucc, .slice uba t.nb ubc, .slice ura t.nr urc, .slice una t.nn unc] 25)).alloc (.cells #[.slice yfa x.nf yfc, .slice yba x.nb ybc, .slice yda x.nd ydc, .slice yma x.nm ymc] 75)) [(w.heap.size, #[.slice uca t.nc ucc, .slice uba t.nb ubc, .slice ura t.nr urc, .slice una t.nn unc], 25), (w.heap.size + 1, #[.slice yfa x.nf yfc, .slice yba x.nb ybc, .slice yda x.nd ydc, .slice yma x.nm ymc], 75)]) := BF.made2 w _ _ _ _
  have k0 := HA0.out.cell (.head _) 0
  have k1 := HA0.out.cell (.head _) 1
  have k2 := HA0.out.cell (.head _) 2
  have k3 := HA0.out.cell (.head _) 3
  have j0 := HA0.out.cell (.tail _ (.head _)) 0
  have j1 := HA0.out.cell (.tail _ (.head _)) 1
  have j2 := HA0.out.cell (.tail _ (.head _)) 2
  have j3 := HA0.out.cell (.tail _ (.head _)) 3
  go_enter Try.func14, Try.ntmps14
  cases hth : t.thin
  · go_wp2_with (first | (go_at_call 17; refine (HTH.out _ HA0.out.fr).mono ?_; rw [hth]; rintro _ w1 ⟨rfl, hb1⟩; have HA1 := Lib.hid (HA0.out.below hb1); clear hb1) | (go_at_call 18; refine (HAW.out _).mono ?_; rintro _ w2 ⟨rfl, hb2⟩; have HB2 := Lib.hid (HA1.out.below hb2).fr; clear hb2))
    go_ret
    exact ⟨rfl, HB2.out⟩
  go_wp2_with fail
  refine (HTH.out _ HA0.out.fr).mono ?_
  rw [hth]
  rintro _ w1 ⟨rfl, hb1⟩
  have HA1 := Lib.hid (HA0.out.below hb1)
  clear k0 k1 k2 k3 j0 j1 j2 j3 hb1 HA0
  have k0 := HA1.out.cell (.head _) 0
  have k1 := HA1.out.cell (.head _) 1
  have k2 := HA1.out.cell (.head _) 2
  have k3 := HA1.out.cell (.head _) 3
  have j0 := HA1.out.cell (.tail _ (.head _)) 0
  have j1 := HA1.out.cell (.tail _ (.head _)) 1
  have j2 := HA1.out.cell (.tail _ (.head _)) 2
  have j3 := HA1.out.cell (.tail _ (.head _)) 3
  cases hsm : x.sm
  · go_wp2_with (first | (go_at_call 46; refine (HSL.out _ HA1.out.fr).mono ?_; rw [hsm]; rintro _ w2 ⟨rfl, hb2⟩; have HA2 := Lib.hid (HA1.out.below hb2); clear hb2) | (go_at_call 18; refine (HAW.out _).mono ?_; rintro _ w3 ⟨rfl, hb3⟩; have HB3 := Lib.hid (HA2.out.below hb3).fr; clear hb3))
    go_ret
    exact ⟨rfl, HB3.out⟩
  go_wp2_with fail
  refine (HSL.out _ HA1.out.fr).mono ?_
  rw [hsm]
  rintro _ w2 ⟨rfl, hb2⟩
  have HA2 := Lib.hid (HA1.out.below hb2)
  clear k0 k1 k2 k3 j0 j1 j2 j3 hb2 HA1 HTH HSL
  have hs := Tb.thin_small hth HT0.out.z
  have hts := Tr.sm_of hsm
  have sb2 : t.nb ≤ 100000 := hs.2.2.1
  have HSS := Lib.hid hs; have HTS := Lib.hid hts
  obtain ⟨f, HF⟩ : ∃ f, Hid (t.fault = f) := ⟨_, rfl⟩
  have HTB : Hid (∀ X, Below w.heap.size w X → Calls Try.prog 20 #[.agg #[.slice uca t.nc ucc, .slice uba t.nb ubc, .slice ura t.nr urc, .slice una t.nn unc]] X fun e w' => ∃ v' : WV, e = .returned (.agg #[v'.cv t, v'.bv t, v'.rv t, v'.nv t]) ∧ WL w' v' t ∧ Below X.heap.size X w') := fun X hX => table_any ⟨uca, ucc, uba, ubc, ura, urc, una, unc⟩ t HSS.out X (HT0.out.l.below hX)
  have HTR : Hid (∀ X, Below w.heap.size w X → Calls Try.prog 49 #[.agg #[.slice yfa x.nf yfc, .slice yba x.nb ybc, .slice yda x.nd ydc, .slice yma x.nm ymc]] X fun e w' => ∃ y' : XV, e = .returned (.agg #[.slice y'.fa x.nf y'.fc, .slice y'.ba x.nb y'.bc, .slice y'.da x.nd y'.dc, .slice y'.ma x.nm y'.mc]) ∧ XL w' y' x ∧ Below X.heap.size X w') := fun X hX => truth_conv ⟨yfa, yfc, yba, ybc, yda, ydc, yma, ymc⟩ x X (HX0.out.below hX) HTS.out
  have HCK : Hid (∀ (X : World) (v' : WV), WL X v' t → Calls Try.prog 47 #[.agg #[v'.cv t, v'.bv t, v'.rv t, v'.nv t]] X fun e w' => e = .returned (.int .i64 f) ∧ Below X.heap.size X w') := fun X v' h => by
    have h2 := check_any _ t X h.tb HSS.out
    rw [HF.out] at h2
    exact h2
  have HPL : Hid (∀ (X : World) (v' : WV) (y' : XV), WL X v' t → XL X y' x → Calls Try.prog 48 #[.agg #[v'.cv t, v'.bv t, v'.rv t, v'.nv t], .agg #[.slice y'.fa x.nf y'.fc, .slice y'.ba x.nb y'.bc, .slice y'.da x.nd y'.dc, .slice y'.ma x.nm y'.mc]] X fun e w' => ∃ sa sn sc cn er, e = .returned (.tuple #[.slice sa sn sc, .bool cn, .int .i64 er]) ∧ PlP t x w' (.slice sa sn sc) sn cn er ∧ Below X.heap.size X w') := fun X v' y' h hx => play_two v' t y' x HSS.out HTS.out X h hx
  obtain ⟨pv, HPV⟩ : ∃ pv, Hid (t.proves x = pv) := ⟨_, rfl⟩
  have HPR : Hid (∀ (X : World) (v' : WV) (y' : XV), WL X v' t → XL X y' x → Calls Try.prog 50 #[.agg #[v'.cv t, v'.bv t, v'.rv t, v'.nv t], .agg #[.slice y'.fa x.nf y'.fc, .slice y'.ba x.nb y'.bc, .slice y'.da x.nd y'.dc, .slice y'.ma x.nm y'.mc]] X fun e w' => e = .returned (.bool pv) ∧ Below X.heap.size X w') := fun X v' y' h hx => by
    have h2 := prove_two v' t y' x HSS.out HTS.out X h hx
    rw [HPV.out] at h2
    exact h2
  have HFT : Hid (∀ X, Below w.heap.size w X → Calls Try.prog 21 #[.agg #[.slice uca t.nc ucc, .slice uba t.nb ubc, .slice ura t.nr urc, .slice una t.nn unc]] X fun e w' => e = .returned (.int .i64 f) ∧ Below X.heap.size X w') := fun X hX => by
    have h2 := lfault_any ⟨uca, ucc, uba, ubc, ura, urc, una, unc⟩ t HSS.out X (HT0.out.l.below hX)
    rw [HF.out] at h2
    exact h2
  have HC4 : Hid (∀ X, Below w2.heap.size w2 X → (X.cell? ⟨w.heap.size, 0, none⟩ = some (.slice uca t.nc ucc) ∧ X.cell? ⟨w.heap.size, 1, none⟩ = some (.slice uba t.nb ubc) ∧ X.cell? ⟨w.heap.size, 2, none⟩ = some (.slice ura t.nr urc) ∧ X.cell? ⟨w.heap.size, 3, none⟩ = some (.slice una t.nn unc) ∧ X.cell? ⟨w.heap.size + 1, 0, none⟩ = some (.slice yfa x.nf yfc) ∧ X.cell? ⟨w.heap.size + 1, 1, none⟩ = some (.slice yba x.nb ybc) ∧ X.cell? ⟨w.heap.size + 1, 2, none⟩ = some (.slice yda x.nd ydc) ∧ X.cell? ⟨w.heap.size + 1, 3, none⟩ = some (.slice yma x.nm ymc))) := fun X hX => by
    have h := HA2.out.below hX
    exact ⟨h.cell (.head _) 0, h.cell (.head _) 1, h.cell (.head _) 2, h.cell (.head _) 3, h.cell (.tail _ (.head _)) 0, h.cell (.tail _ (.head _)) 1, h.cell (.tail _ (.head _)) 2, h.cell (.tail _ (.head _)) 3⟩
  have HTB2 := HTB
  clear HTB hs hts hth hsm
  have HTB : Hid (∀ X, Below w2.heap.size w2 X → Calls Try.prog 20 #[.agg #[.slice uca t.nc ucc, .slice uba t.nb ubc, .slice ura t.nr urc, .slice una t.nn unc]] X fun e w' => ∃ v' : WV, e = .returned (.agg #[v'.cv t, v'.bv t, v'.rv t, v'.nv t]) ∧ WL w' v' t ∧ Below X.heap.size X w') := fun X hX => HTB2.out X (HA2.out.below hX).fr
  have HTR2 := HTR
  clear HTR
  have HTR : Hid (∀ X, Below w2.heap.size w2 X → Calls Try.prog 49 #[.agg #[.slice yfa x.nf yfc, .slice yba x.nb ybc, .slice yda x.nd ydc, .slice yma x.nm ymc]] X fun e w' => ∃ y' : XV, e = .returned (.agg #[.slice y'.fa x.nf y'.fc, .slice y'.ba x.nb y'.bc, .slice y'.da x.nd y'.dc, .slice y'.ma x.nm y'.mc]) ∧ XL w' y' x ∧ Below X.heap.size X w') := fun X hX => HTR2.out X (HA2.out.below hX).fr
  clear HTB2 HTR2
  simp only [WV.cv, WV.bv, WV.rv, WV.nv] at HTB HCK HPL HPR
  have k0 := HA2.out.cell (.head _) 0
  have k1 := HA2.out.cell (.head _) 1
  have k2 := HA2.out.cell (.head _) 2
  have k3 := HA2.out.cell (.head _) 3
  have j0 := HA2.out.cell (.tail _ (.head _)) 0
  have j1 := HA2.out.cell (.tail _ (.head _)) 1
  have j2 := HA2.out.cell (.tail _ (.head _)) 2
  have j3 := HA2.out.cell (.tail _ (.head _)) 3
  go_wp2_with fail
  refine (HTB.out _ (Below.refl _ _)).mono ?_
  rintro _ w3 ⟨v3, rfl, hl3, hb3⟩
  go_wp2_with fail
  refine (HCK.out _ _ hl3).mono ?_
  rintro _ w4 ⟨rfl, hb4⟩
  have HB4 := Lib.hid (below_step hb3 hb4)
  clear k0 k1 k2 k3 j0 j1 j2 j3 hl3 hb3 hb4 HCK
  go_wp2_with fail
  go_cut [6, 7, 8] (fun s6 s7 s8 wy => ∃ sa sn sc cn er, s6 = .slice sa sn sc ∧ s7 = .bool cn ∧ s8 = .int .i64 er ∧ PlP t x wy (.slice sa sn sc) sn cn er ∧ Below w4.heap.size w4 wy)
  case first => as_aux_lemma =>
    have HAX : Hid (Below w4.heap.size w4 w4.drew) := (Below.refl _ _).drew
    refine wp_region_held_drew (S := fun X => X.cell? ⟨w.heap.size, 0, none⟩ = some (.slice uca t.nc ucc) ∧ X.cell? ⟨w.heap.size, 1, none⟩ = some (.slice uba t.nb ubc) ∧ X.cell? ⟨w.heap.size, 2, none⟩ = some (.slice ura t.nr urc) ∧ X.cell? ⟨w.heap.size, 3, none⟩ = some (.slice una t.nn unc) ∧ X.cell? ⟨w.heap.size + 1, 0, none⟩ = some (.slice yfa x.nf yfc) ∧ X.cell? ⟨w.heap.size + 1, 1, none⟩ = some (.slice yba x.nb ybc) ∧ X.cell? ⟨w.heap.size + 1, 2, none⟩ = some (.slice yda x.nd ydc) ∧ X.cell? ⟨w.heap.size + 1, 3, none⟩ = some (.slice yma x.nm ymc)) (by kernel_rfl) (HC4.out _ (below_step HB4.out HAX.out)) (fun hS => ?_)
    generalize w4.drew = X at *
    refine tk [0, 2] ?_
    repeat (refine tkH (oi := ⟨_, _, _, _, _, _⟩) (v := ?_) rfl (by kernel_rfl) (by rfl) (fun _ _ _ h => h) hS ?_ ?_; rotate_left; (· rintro W' ⟨z0, z1, z2, z3, z4, z5, z6, z7⟩; go_simp; try with_reducible rfl); try simp only [Act.put, putA, putZ, putS])
    refine tk0 ?_
    refine wpAnyH_ready (rs := [1]) (by kernel_rfl) (by simp) ?_
    refine AllReadyH.cons (o := ⟨some 27, _, _, _, _, _⟩) rfl (fun K hK => ?_) AllReadyH.nil
    go_simp
    refine (HTB.out _ (below_step HB4.out HAX.out)).mono ?_
    rintro _ X0 ⟨vT, rfl, hlT, hb0⟩
    (try go_wp2_with fail)
    have HA0 := Lib.hid (below_step HAX.out hb0)
    have HT0 := Lib.hid hlT
    refine hK.out _ _ (HC4.out X0 (below_step HB4.out HA0.out)) (fun hS => ?_)
    clear hK K
    try simp only [Act.put, putA, putZ, putS]
    clear hb0 hlT
    refine wpAnyH_ready (rs := [3]) (by kernel_rfl) (by simp) ?_
    refine AllReadyH.cons (o := ⟨some 29, _, _, _, _, _⟩) rfl (fun K hK => ?_) AllReadyH.nil
    go_simp
    refine (HTR.out _ (below_step HB4.out HA0.out)).mono ?_
    rintro _ X1 ⟨xT, rfl, hxT, hb1⟩
    (try go_wp2_with fail)
    have HA1 := Lib.hid (below_step HA0.out hb1)
    have HY1 := Lib.hid hxT
    have HT1 := Lib.hid (HT0.out.below hb1)
    refine hK.out _ _ (HC4.out X1 (below_step HB4.out HA1.out)) (fun hS => ?_)
    clear hK K
    try simp only [Act.put, putA, putZ, putS]
    clear hb1 hxT
    refine wpAnyH_ready (rs := [4]) (by kernel_rfl) (by simp) ?_
    refine AllReadyH.cons (o := ⟨some 30, _, _, _, _, _⟩) rfl (fun K hK => ?_) AllReadyH.nil
    go_simp
    refine (HPL.out _ _ _ HT1.out HY1.out).mono ?_
    rintro _ X2 ⟨sa, sn, sc, cn, er, rfl, hpl, hb2⟩
    (try go_wp2_with fail)
    have HA2 := Lib.hid (below_step HA1.out hb2)
    have HPP := Lib.hid hpl
    refine hK.out _ _ (HC4.out X2 (below_step HB4.out HA2.out)) (fun hS => ?_)
    clear hK K
    try simp only [Act.put, putA, putZ, putS]
    clear hb2 hpl
    refine tk [5, 6, 7, 8, 9, 10, 11] ?_
    repeat (refine tkH (oi := ⟨_, _, _, _, _, _⟩) (v := ?_) rfl (by kernel_rfl) (by rfl) (fun _ _ _ h => h) hS ?_ ?_; rotate_left; (· rintro W' ⟨z0, z1, z2, z3, z4, z5, z6, z7⟩; go_simp; try with_reducible rfl); try simp only [Act.put, putA, putZ, putS])
    refine tk0 ?_
    refine wpAnyH_done (by kernel_rfl) ?_ _
    go_wp2_with fail
    go_meet
    exact ⟨sa, sn, sc, cn, er, rfl, rfl, rfl, HPP.out, HA2.out⟩
  rename World => w5
  obtain ⟨sa, sn, sc, cn, er, rfl, rfl, rfl, hpl, hb5⟩ := hcut
  have HB5 := Lib.hid (below_step HB4.out hb5)
  have HPP0 := Lib.hid hpl
  clear hpl hb5 HPL HB4
  go_wp2_with fail
  go_cut [9] (fun s9 wy => s9 = .bool pv ∧ Below w5.heap.size w5 wy)
  case first => as_aux_lemma =>
    have HAX : Hid (Below w5.heap.size w5 w5.drew) := (Below.refl _ _).drew
    refine wp_region_held_drew (S := fun X => X.cell? ⟨w.heap.size, 0, none⟩ = some (.slice uca t.nc ucc) ∧ X.cell? ⟨w.heap.size, 1, none⟩ = some (.slice uba t.nb ubc) ∧ X.cell? ⟨w.heap.size, 2, none⟩ = some (.slice ura t.nr urc) ∧ X.cell? ⟨w.heap.size, 3, none⟩ = some (.slice una t.nn unc) ∧ X.cell? ⟨w.heap.size + 1, 0, none⟩ = some (.slice yfa x.nf yfc) ∧ X.cell? ⟨w.heap.size + 1, 1, none⟩ = some (.slice yba x.nb ybc) ∧ X.cell? ⟨w.heap.size + 1, 2, none⟩ = some (.slice yda x.nd ydc) ∧ X.cell? ⟨w.heap.size + 1, 3, none⟩ = some (.slice yma x.nm ymc)) (by kernel_rfl) (HC4.out _ (below_step HB5.out HAX.out)) (fun hS => ?_)
    generalize w5.drew = X at *
    refine tk [0, 2] ?_
    repeat (refine tkH (oi := ⟨_, _, _, _, _, _⟩) (v := ?_) rfl (by kernel_rfl) (by rfl) (fun _ _ _ h => h) hS ?_ ?_; rotate_left; (· rintro W' ⟨z0, z1, z2, z3, z4, z5, z6, z7⟩; go_simp; try with_reducible rfl); try simp only [Act.put, putA, putZ, putS])
    refine tk0 ?_
    refine wpAnyH_ready (rs := [1]) (by kernel_rfl) (by simp) ?_
    refine AllReadyH.cons (o := ⟨some 35, _, _, _, _, _⟩) rfl (fun K hK => ?_) AllReadyH.nil
    go_simp
    refine (HTB.out _ (below_step HB5.out HAX.out)).mono ?_
    rintro _ X0 ⟨vT, rfl, hlT, hb0⟩
    (try go_wp2_with fail)
    have HA0 := Lib.hid (below_step HAX.out hb0)
    have HT0 := Lib.hid hlT
    refine hK.out _ _ (HC4.out X0 (below_step HB5.out HA0.out)) (fun hS => ?_)
    clear hK K
    try simp only [Act.put, putA, putZ, putS]
    clear hb0 hlT
    refine wpAnyH_ready (rs := [3]) (by kernel_rfl) (by simp) ?_
    refine AllReadyH.cons (o := ⟨some 37, _, _, _, _, _⟩) rfl (fun K hK => ?_) AllReadyH.nil
    go_simp
    refine (HTR.out _ (below_step HB5.out HA0.out)).mono ?_
    rintro _ X1 ⟨xT, rfl, hxT, hb1⟩
    (try go_wp2_with fail)
    have HA1 := Lib.hid (below_step HA0.out hb1)
    have HY1 := Lib.hid hxT
    have HT1 := Lib.hid (HT0.out.below hb1)
    refine hK.out _ _ (HC4.out X1 (below_step HB5.out HA1.out)) (fun hS => ?_)
    clear hK K
    try simp only [Act.put, putA, putZ, putS]
    clear hb1 hxT
    refine wpAnyH_ready (rs := [4]) (by kernel_rfl) (by simp) ?_
    refine AllReadyH.cons (o := ⟨some 38, _, _, _, _, _⟩) rfl (fun K hK => ?_) AllReadyH.nil
    go_simp
    refine (HPR.out _ _ _ HT1.out HY1.out).mono ?_
    rintro _ X2 ⟨rfl, hb2⟩
    (try go_wp2_with fail)
    have HA2 := Lib.hid (below_step HA1.out hb2)
    refine hK.out _ _ (HC4.out X2 (below_step HB5.out HA2.out)) (fun hS => ?_)
    clear hK K
    try simp only [Act.put, putA, putZ, putS]
    clear hb2
    refine tH 5 (oi := ⟨_, _, _, _, _, _⟩) (v := ?_) rfl (by kernel_rfl) (by rfl) (fun _ _ _ h => h) hS ?_ ?_
    rotate_left
    · rintro W' ⟨z0, z1, z2, z3, z4, z5, z6, z7⟩; go_simp; try with_reducible rfl
    try simp only [Act.put, putA, putZ, putS]
    refine wpAnyH_done (by kernel_rfl) ?_ _
    go_wp2_with fail
    go_meet
    exact ⟨rfl, HA2.out⟩
  rename World => w6
  obtain ⟨rfl, hb6⟩ := hcut
  have HA6 := Lib.hid (HA2.out.below (below_step HB5.out hb6))
  have HPP := Lib.hid (HPP0.out.below hb6)
  clear hb6 HPR HB5 HPP0 HTB HTR HC4 HA2
  have k0 := HA6.out.cell (.head _) 0
  have k1 := HA6.out.cell (.head _) 1
  have k2 := HA6.out.cell (.head _) 2
  have k3 := HA6.out.cell (.head _) 3
  have j0 := HA6.out.cell (.tail _ (.head _)) 0
  have j1 := HA6.out.cell (.tail _ (.head _)) 1
  have j2 := HA6.out.cell (.tail _ (.head _)) 2
  have j3 := HA6.out.cell (.tail _ (.head _)) 3
  go_wp2_with fail
  refine (HFT.out _ HA6.out.fr).mono ?_
  rintro _ w7 ⟨rfl, hb7⟩
  have HA7 := Lib.hid (HA6.out.below hb7)
  have HPP7 := Lib.hid (HPP.out.below hb7)
  clear k0 k1 k2 k3 j0 j1 j2 j3 hb7 HA6 HPP HFT
  have k0 := HA7.out.cell (.head _) 0
  have k1 := HA7.out.cell (.head _) 1
  have k2 := HA7.out.cell (.head _) 2
  have k3 := HA7.out.cell (.head _) 3
  have j0 := HA7.out.cell (.tail _ (.head _)) 0
  have j1 := HA7.out.cell (.tail _ (.head _)) 1
  have j2 := HA7.out.cell (.tail _ (.head _)) 2
  have j3 := HA7.out.cell (.tail _ (.head _)) 3
  by_cases hf0 : f = 0
  case neg =>
    have hq1 : (f == 0) = false := by simpa using hf0
    have hq2 : (f != 0) = true := by simpa using hf0
    have hWE : wantE t x = f := by unfold wantE; rw [if_neg (by rw [HF.out]; exact hf0), HF.out]
    have hPV : pv = false := by rw [← HPV.out]; unfold Tb.proves; rw [decide_eq_false (by rw [HF.out]; exact hf0)]; rfl
    rcases HPP7.out with ⟨_, h2, rfl, rfl⟩ | ⟨h1, _⟩
    case inr => exact absurd (hWE.symm.trans h1) hf0
    rw [hWE] at h2
    subst h2 hPV
    clear hWE
    go_wp2_with (go_at_call 18; refine (HAW.out _).mono ?_; rintro _ w8 ⟨rfl, hb8⟩; have HB8 := Lib.hid (HA7.out.below hb8).fr; clear hb8)
    go_ret
    exact ⟨rfl, HB8.out⟩
  subst hf0
  have ht := Okt.of_fault HF.out
  have HOK := Lib.hid ht
  cases htr : t.isTr x
  · have hWE : wantE t x = 2 := by unfold wantE; rw [if_pos HF.out, htr]; rfl
    have hPV : pv = false := by rw [← HPV.out]; unfold Tb.proves; rw [htr]; simp
    rcases HPP7.out with ⟨_, h2, rfl, rfl⟩ | ⟨h1, _⟩
    case inr => exact absurd (hWE.symm.trans h1) (by decide)
    rw [hWE] at h2
    subst h2 hPV
    have HIT : Hid (Calls Try.prog 51 #[.agg #[.slice uca t.nc ucc, .slice uba t.nb ubc, .slice ura t.nr urc, .slice una t.nn unc], .agg #[.slice yfa x.nf yfc, .slice yba x.nb ybc, .slice yda x.nd ydc, .slice yma x.nm ymc]] w7 fun e w' => e = .returned (.bool false) ∧ Below w7.heap.size w7 w') := by
      have h2 := isTruth_any ⟨uca, ucc, uba, ubc, ura, urc, una, unc⟩ t ⟨yfa, yfc, yba, ybc, yda, ydc, yma, ymc⟩ x w7 (HT0.out.l.below HA7.out.fr) HSS.out (HX0.out.below HA7.out.fr) HOK.out HTS.out
      rw [htr] at h2
      exact h2
    clear hWE ht htr
    go_wp2_with (first | (go_at_call 51; refine (HIT.out).mono ?_; rintro _ w8 ⟨rfl, hb8⟩; have HA8 := Lib.hid (HA7.out.below hb8); clear hb8) | (go_at_call 18; refine (HAW.out _).mono ?_; rintro _ w9 ⟨rfl, hb9⟩; have HB9 := Lib.hid (HA8.out.below hb9).fr; clear hb9))
    go_ret
    exact ⟨rfl, HB9.out⟩
  have hWE : wantE t x = 0 := by unfold wantE; rw [if_pos HF.out, htr]; rfl
  have HPO := Lib.hid (isTr_play ht htr).1
  obtain ⟨cc, HCC⟩ : ∃ cc, Hid (canC t x t.nb = cc) := ⟨_, rfl⟩
  obtain ⟨ft, HFI⟩ : ∃ ft, Hid (t.fits x = ft) := ⟨_, rfl⟩
  have hPV : pv = (cc && ft) := by rw [← HPV.out]; unfold Tb.proves; rw [htr, decide_eq_true HF.out, HCC.out, HFI.out]; rfl
  have HIT : Hid (Calls Try.prog 51 #[.agg #[.slice uca t.nc ucc, .slice uba t.nb ubc, .slice ura t.nr urc, .slice una t.nn unc], .agg #[.slice yfa x.nf yfc, .slice yba x.nb ybc, .slice yda x.nd ydc, .slice yma x.nm ymc]] w7 fun e w' => e = .returned (.bool true) ∧ Below w7.heap.size w7 w') := by
    have h2 := isTruth_any ⟨uca, ucc, uba, ubc, ura, urc, una, unc⟩ t ⟨yfa, yfc, yba, ybc, yda, ydc, yma, ymc⟩ x w7 (HT0.out.l.below HA7.out.fr) HSS.out (HX0.out.below HA7.out.fr) HOK.out HTS.out
    rw [htr] at h2
    exact h2
  have HRP : Hid (∀ X, Below w.heap.size w X → Calls Try.prog 52 #[.agg #[.slice uca t.nc ucc, .slice uba t.nb ubc, .slice ura t.nr urc, .slice una t.nn unc], .agg #[.slice yfa x.nf yfc, .slice yba x.nb ybc, .slice yda x.nd ydc, .slice yma x.nm ymc]] X fun e w' => ∃ va vc, e = .returned (.tuple #[.slice va (t.nb + 1) vc, .bool cc]) ∧ IRows w' (.slice va (t.nb + 1) vc) (t.nb + 1) (fun _ => t.ng) (siz t.ng x) ∧ Below X.heap.size X w') := fun X hX => by
    refine (play_anyC ⟨uca, ucc, uba, ubc, ura, urc, una, unc⟩ t ⟨yfa, yfc, yba, ybc, yda, ydc, yma, ymc⟩ x HSS.out X (HT0.out.l.below hX) (HX0.out.below hX) HPO.out).mono ?_
    rintro e w' ⟨v, rfl, h1, h2, _, va, vc, rfl, _⟩
    rw [HCC.out]
    exact ⟨va, vc, rfl, h1, h2⟩
  rcases HPP7.out with ⟨h1, _⟩ | ⟨_, rfl, rfl, h4, h5⟩
  case inl => exact absurd hWE h1
  rw [HCC.out] at h4
  subst h4 hPV
  have HIR := Lib.hid h5
  have nbc := ht.nb; have nc4 := ht.nc4; have ng4 := ht.ng4; have ng2 := ht.ng2
  have HNB := Lib.hid nbc
  clear hWE ht htr h5 HPP7 nbc
  go_wp2_with fail
  refine HIT.out.mono ?_
  rintro _ w8 ⟨rfl, hb8⟩
  have HA8 := Lib.hid (HA7.out.below hb8)
  have HIR8 := Lib.hid (HIR.out.below hb8)
  clear k0 k1 k2 k3 j0 j1 j2 j3 hb8 HIT HIR HA7
  have k0 := HA8.out.cell (.head _) 0
  have k1 := HA8.out.cell (.head _) 1
  have k2 := HA8.out.cell (.head _) 2
  have k3 := HA8.out.cell (.head _) 3
  have j0 := HA8.out.cell (.tail _ (.head _)) 0
  have j1 := HA8.out.cell (.tail _ (.head _)) 1
  have j2 := HA8.out.cell (.tail _ (.head _)) 2
  have j3 := HA8.out.cell (.tail _ (.head _)) 3
  go_wp2_with fail
  refine (HRP.out _ HA8.out.fr).mono ?_
  rintro _ w9 ⟨va, vc, rfl, hir, hb9⟩
  have HA9 := Lib.hid (HA8.out.below hb9)
  have HIR9 := Lib.hid (HIR8.out.below hb9)
  have HIRV := Lib.hid hir
  clear k0 k1 k2 k3 j0 j1 j2 j3 hb9 hir HIR8 HA8 HRP
  have k0 := HA9.out.cell (.head _) 0
  have k1 := HA9.out.cell (.head _) 1
  have k2 := HA9.out.cell (.head _) 2
  have k3 := HA9.out.cell (.head _) 3
  have j0 := HA9.out.cell (.tail _ (.head _)) 0
  have j1 := HA9.out.cell (.tail _ (.head _)) 1
  have j2 := HA9.out.cell (.tail _ (.head _)) 2
  have j3 := HA9.out.cell (.tail _ (.head _)) 3
  go_wp2_with fail
  have HSA : Hid (Calls Try.prog 45 #[.slice sa (t.nb + 1) sc, .slice va (t.nb + 1) vc] w9 fun e w' => e = .returned (.bool true) ∧ Below w9.heap.size w9 w') := by
    have h := same_any (.slice sa (t.nb + 1) sc) (.slice va (t.nb + 1) vc) (t.nb + 1) (t.nb + 1) (fun _ => t.ng) (fun _ => t.ng) (siz t.ng x) (siz t.ng x) w9 HIR9.out HIRV.out (by omega) (by omega) (fun _ _ => by omega) (fun _ _ => by omega)
    rw [sameB_of (fun _ _ => ⟨rfl, fun _ _ => rfl⟩)] at h
    exact h
  refine HSA.out.mono ?_
  rintro _ w10 ⟨rfl, hb10⟩
  have HA10 := Lib.hid (HA9.out.below hb10)
  have HIRW := Lib.hid (HIRV.out.below hb10)
  clear k0 k1 k2 k3 j0 j1 j2 j3 hb10 HIR9 HIRV HA9 HSA
  have k0 := HA10.out.cell (.head _) 0
  have k1 := HA10.out.cell (.head _) 1
  have k2 := HA10.out.cell (.head _) 2
  have k3 := HA10.out.cell (.head _) 3
  have j0 := HA10.out.cell (.tail _ (.head _)) 0
  have j1 := HA10.out.cell (.tail _ (.head _)) 1
  have j2 := HA10.out.cell (.tail _ (.head _)) 2
  have j3 := HA10.out.cell (.tail _ (.head _)) 3
  cases cn
  · go_wp2_with (go_at_call 18; refine (HAW.out _).mono ?_; rintro _ w11 ⟨rfl, hb11⟩; have HB11 := Lib.hid (HA10.out.below hb11).fr; clear hb11)
    go_ret
    exact ⟨rfl, HB11.out⟩
  have HAG : Hid (Calls Try.prog 53 #[.agg #[.slice uca t.nc ucc, .slice uba t.nb ubc, .slice ura t.nr urc, .slice una t.nn unc], .slice va (t.nb + 1) vc, .agg (outL off0).toArray] w10 fun e w' => e = .returned (.bool ft) ∧ Below w10.heap.size w10 w') := by
    have h := agrees_any ⟨uca, ucc, uba, ubc, ura, urc, una, unc⟩ t va vc (siz t.ng x) w10 (HT0.out.l.below HA10.out.fr) HSS.out HOK.out (by rw [← HNB.out]; exact HIRW.out)
    rw [agrR_fits (by omega), HFI.out, ← HNB.out] at h
    exact h
  go_wp2_with fail
  refine HAG.out.mono ?_
  rintro _ w11 ⟨rfl, hb11⟩
  have HA11 := Lib.hid (HA10.out.below hb11)
  clear k0 k1 k2 k3 j0 j1 j2 j3 hb11 HAG HA10
  cases ft
  all_goals
    go_wp2_with (go_at_call 18; refine (HAW.out _).mono ?_; rintro _ w12 ⟨rfl, hb12⟩; have HB12 := Lib.hid (HA11.out.below hb12).fr; clear hb12)
    go_ret
    exact ⟨rfl, HB12.out⟩
end Go.Proofs.Ytjaoflfophcibaa
