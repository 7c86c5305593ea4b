/- FlowBounds: the walk. Printed by gen_ku.py. -/
import Derived.Test.YtjaoflfophcibaaKS
import Derived.Test.YtjaoflfophcibaaKT
import Derived.Test.YtjaoflfophcibaaGO
import Derived.Test.YtjaoflfophcibaaPL
namespace Go.Proofs.Ytjaoflfophcibaa
open Go.RowKit Go.Shelf

theorem ups_okb {t : Tb} {out : Nat → Nat → Bool} (ht : Okt t) (ha : t.agree out = true) : Ups t out :=
  ⟨fun c g hc hg => by
    have h := ht.ct c g hc hg
    have h2 : 0 ≤ (t.own out c g).1 := by unfold Tb.own; split <;> omega
    unfold Tb.up meetR
    simp only
    omega, fun c g hc hg => agree_ne ha (by have := ht.ng2; omega) c g hc hg⟩
theorem neq_rok (a b : Int) (W : World) : (binOp .neq 29 (.agg #[.int .i64 a, .int .i64 b]) (.agg #[.int .i64 a, .int .i64 b])).run Try.prog W = .ok (.bool false) W := by
  rw [neq_range]; simp
/-- What Bounds returns. -/
def BdA (t : Tb) (W : World) (bv : Value) (bn : Nat) (be : Int) : Prop :=
  (t.fault ≠ 0 ∧ be = t.fault ∧ bn = 0) ∨ (t.fault = 0 ∧ t.agree off0 = false ∧ be = 9 ∧ bn = 0) ∨ (t.fault = 0 ∧ t.agree off0 = true ∧ be = 0 ∧ bn = t.nc ∧ RowsAt W bv t.nc (fun _ => t.ng) (bndR t off0))
theorem BdA.below {t : Tb} {W W' : World} {bv : Value} {bn : Nat} {be : Int} (h : BdA t W bv bn be) (hb : Below W.heap.size W W') : BdA t W' bv bn be := by
  rcases h with h | h | ⟨h1, h2, h3, h4, h5⟩
  · exact .inl h
  · exact .inr (.inl h)
  · exact .inr (.inr ⟨h1, h2, h3, h4, h5.below hb⟩)
theorem FlA.below {t : Tb} {W W' : World} {la : Option Addr} {ln : Nat} {fe : Int} (h : FlA t W la ln fe) (hb : Below W.heap.size W W') : FlA t W' la ln fe := by
  refine ⟨h.1, h.2.1, fun hf => ⟨(h.2.2 hf).1, fun ha => ?_⟩⟩
  obtain ⟨h1, b, h2, h3, h4⟩ := (h.2.2 hf).2 ha
  exact ⟨h1, b, h2, Nat.lt_of_lt_of_le h3 hb.size, kept hb h3 h4⟩
theorem bounds_all (v : WV) (t : Tb) (X : World) (hs : t.small) (hl : WL X v t) :
    Calls Try.prog 39 #[.agg #[v.cv t, v.bv t, v.rv t, v.nv t]] X fun e w' => ∃ ba bn bc be, e = .returned (.tuple #[.slice ba bn bc, .int .i64 be]) ∧ BdA t w' (.slice ba bn bc) bn be ∧ Below X.heap.size X w' := by
  by_cases hf : t.fault = 0
  · have hng := (Okt.of_fault hf).ng2
    cases ha : t.agree off0
    · refine (Bounds_fail v t hs X hl hf ha).mono ?_
      rintro e w' ⟨rfl, hb⟩
      exact ⟨_, _, _, _, rfl, .inr (.inl ⟨hf, ha, rfl, rfl⟩), hb⟩
    · refine (Bounds_okS v t hs X hl hf ha (fun c g hc hg => agree_ne ha (by omega) c g hc hg)).mono ?_
      rintro e w' ⟨OB, rfl, hr, hb⟩
      exact ⟨_, _, _, _, rfl, .inr (.inr ⟨hf, ha, rfl, rfl, hr⟩), hb⟩
  · refine (Bounds_bad v t hs X hl hf).mono ?_
    rintro e w' ⟨rfl, hb⟩
    exact ⟨_, _, _, _, rfl, .inl ⟨hf, rfl, rfl⟩, hb⟩
theorem ends_bnd {P D : Nat → Bool} {r : R2} (X : World) (h : IvS (fun m => P m && D m) r) (hi : InB r) :
    Calls Try.prog 26 #[.agg (stA fun m => P m && D m)] X fun e w' => e = .returned (.tuple #[.agg #[.int .i64 r.1, .int .i64 r.2], .bool true]) ∧ Below X.heap.size X w' := by
  refine (ends_any _ X).mono ?_
  rintro e w' ⟨lo, hh, rfl, hep, hb⟩
  obtain ⟨rfl, rfl⟩ := ends_eq hep h hi
  have h1 := hi.lo; have h2 := hi.ne
  refine ⟨?_, hb⟩
  rw [decide_eq_true (by omega : (0 : Int) ≤ r.2)]
set_option maxRecDepth 100000 in
set_option maxHeartbeats 8000000 in
theorem flowBounds_walk (u : WV) (t : Tb) (w : World) (h0 : TbLaw w u t) :
    Calls Try.prog 12 #[.agg #[u.cv t, u.bv t, u.rv t, u.nv t]] w fun e w' => e = .returned (.bool true) ∧ Below w.heap.size w w' := by
  have HTH : Hid (∀ X, Below w.heap.size w X → Calls Try.prog 17 #[.agg #[u.cv t, u.bv t, u.rv t, u.nv t]] X fun e w' => e = .returned (.bool t.thin) ∧ Below X.heap.size X w') := fun X hX => thin_big _ t h0.big X (h0.l.below hX)
  have HAW := Lib.hid awake_any
  obtain ⟨uca, ucc, uba, ubc, ura, urc, una, unc⟩ := u
  have HT0 := Lib.hid h0
  clear h0
  simp only [WV.cv, WV.bv, WV.rv, WV.nv] at HTH ⊢
  have HA0 : Hid (BF w (w.alloc (.cells #[.slice uca t.nc ucc, .slice uba t.nb ubc, .slice ura t.nr urc, .slice una t.nn unc] 25)) [(w.heap.size, #[.slice uca t.nc ucc, .slice uba t.nb ubc, .slice ura t.nr urc, .slice una t.nn unc], 25)]) := (BF.base w).alloc _ _
  have k0 := HA0.out.cell (.head _) 0
  have k1 := HA0.out.cell (.head _) 1
  have k2 := HA0.out.cell (.head _) 2
  have k3 := HA0.out.cell (.head _) 3
  go_enter Try.func12, Try.ntmps12
  cases hth : t.thin
  · go_wp2_with (first | (go_at_call 17; refine (HTH.out _ HA0.out.fr).mono ?_; rw [hth]; rintro _ w1 ⟨rfl, hb1⟩; have HA1 := Lib.hid (HA0.out.below hb1); clear hb1) | (go_at_call 18; refine (HAW.out _).mono ?_; rintro _ w2 ⟨rfl, hb2⟩; have HB2 := Lib.hid (HA1.out.below hb2).fr; clear hb2))
    go_ret
    exact ⟨rfl, HB2.out⟩
  go_wp2_with fail
  refine (HTH.out _ HA0.out.fr).mono ?_
  rw [hth]
  rintro _ w1 ⟨rfl, hb1⟩
  have HA1 := Lib.hid (HA0.out.below hb1)
  clear k0 k1 k2 k3 hb1 HA0
  have hs := Tb.thin_small hth HT0.out.z
  have HSS := Lib.hid hs
  obtain ⟨f, HF⟩ : ∃ f, Hid (t.fault = f) := ⟨_, rfl⟩
  have HTB : Hid (∀ X, Below w.heap.size w X → Calls Try.prog 20 #[.agg #[.slice uca t.nc ucc, .slice uba t.nb ubc, .slice ura t.nr urc, .slice una t.nn unc]] X fun e w' => ∃ v' : WV, e = .returned (.agg #[v'.cv t, v'.bv t, v'.rv t, v'.nv t]) ∧ WL w' v' t ∧ Below X.heap.size X w') := fun X hX => table_any ⟨uca, ucc, uba, ubc, ura, urc, una, unc⟩ t HSS.out X (HT0.out.l.below hX)
  have HBD : Hid (∀ (X : World) (v' : WV), WL X v' t → Calls Try.prog 39 #[.agg #[v'.cv t, v'.bv t, v'.rv t, v'.nv t]] X fun e w' => ∃ ba bn bc be, e = .returned (.tuple #[.slice ba bn bc, .int .i64 be]) ∧ BdA t w' (.slice ba bn bc) bn be ∧ Below X.heap.size X w') := fun X v' h => bounds_all v' t X HSS.out h
  have HFT : Hid (∀ X, Below w.heap.size w X → Calls Try.prog 21 #[.agg #[.slice uca t.nc ucc, .slice uba t.nb ubc, .slice ura t.nr urc, .slice una t.nn unc]] X fun e w' => e = .returned (.int .i64 f) ∧ Below X.heap.size X w') := fun X hX => by
    have h2 := lfault_any ⟨uca, ucc, uba, ubc, ura, urc, una, unc⟩ t HSS.out X (HT0.out.l.below hX)
    rw [HF.out] at h2
    exact h2
  have HGR : Hid (∀ X, Below w.heap.size w X → Calls Try.prog 23 #[.agg #[.slice uca t.nc ucc, .slice uba t.nb ubc, .slice ura t.nr urc, .slice una t.nn unc]] X fun e w' => e = .returned (.int .i64 (t.ng : Nat)) ∧ Below X.heap.size X w') := fun X hX => rgroups_any _ t X (HT0.out.l.below hX).tb HSS.out
  have HFL : Hid (∀ (Y : World) (v' : WV), WL Y v' t → Calls Try.prog 43 #[.slice (some ⟨Y.heap.size, 0, none⟩) 1 1] (Y.alloc (.cells #[v'.cv t, v'.bv t, v'.rv t, v'.nv t] 36)) fun e w' => ∃ la ln lc fe, e = .returned (.tuple #[.slice la ln lc, .int .i64 fe]) ∧ FlA t w' la ln fe ∧ Below Y.heap.size Y w') := fun Y v' h => by
    have hc : BF Y (Y.alloc (.cells #[v'.cv t, v'.bv t, v'.rv t, v'.nv t] 36)) [(Y.heap.size, #[v'.cv t, v'.bv t, v'.rv t, v'.nv t], 36)] := (BF.base Y).alloc _ _
    refine (fail_one Y.heap.size v' t _ HSS.out (by simp) (h.below (below_alloc _ _)) (hc.cell (.head _) 0) (hc.cell (.head _) 1) (hc.cell (.head _) 2) (hc.cell (.head _) 3)).mono ?_
    rintro e w' ⟨la, ln, lc, fe, rfl, h1, h2⟩
    exact ⟨la, ln, lc, fe, rfl, h1, below_step (below_alloc _ _) h2⟩
  clear HTH hs hth
  simp only [WV.cv, WV.bv, WV.rv, WV.nv] at HTB HBD HGR HFT HFL
  have k0 := HA1.out.cell (.head _) 0
  have k1 := HA1.out.cell (.head _) 1
  have k2 := HA1.out.cell (.head _) 2
  have k3 := HA1.out.cell (.head _) 3
  go_wp2_with fail
  refine (HTB.out _ HA1.out.fr).mono ?_
  rintro _ w2 ⟨v2, rfl, hl2, hb2⟩
  go_wp2_with fail
  refine (HBD.out _ _ hl2).mono ?_
  rintro _ w3 ⟨ba, bn, bc, be, rfl, hbd, hb3⟩
  have HA3 := Lib.hid ((HA1.out.below hb2).below hb3)
  have HBT := Lib.hid hbd
  clear k0 k1 k2 k3 hl2 hb2 hb3 hbd HA1 HBD
  have k0 := HA3.out.cell (.head _) 0
  have k1 := HA3.out.cell (.head _) 1
  have k2 := HA3.out.cell (.head _) 2
  have k3 := HA3.out.cell (.head _) 3
  go_wp2_with fail
  refine (HTB.out _ HA3.out.fr).mono ?_
  rintro _ w4 ⟨v4, rfl, hl4, hb4⟩
  go_wp2_with fail
  refine (HFL.out _ _ hl4).mono ?_
  rintro _ w6 ⟨la, ln, lc, fe, rfl, hfl, hb6⟩
  have HA6 := Lib.hid ((HA3.out.below hb4).below hb6)
  have HBT6 := Lib.hid ((HBT.out.below hb4).below hb6)
  have HLT6 := Lib.hid hfl
  clear k0 k1 k2 k3 hl4 hb4 hb6 hfl HA3 HBT HFL HTB
  have k0 := HA6.out.cell (.head _) 0
  have k1 := HA6.out.cell (.head _) 1
  have k2 := HA6.out.cell (.head _) 2
  have k3 := HA6.out.cell (.head _) 3
  go_wp2_with fail
  refine (HFT.out _ HA6.out.fr).mono ?_
  rintro _ w7 ⟨rfl, hb7⟩
  have HA7 := Lib.hid (HA6.out.below hb7); have HBT7 := Lib.hid (HBT6.out.below hb7); have HLT7 := Lib.hid (HLT6.out.below hb7)
  clear k0 k1 k2 k3 hb7 HA6 HBT6 HLT6 HFT
  obtain ⟨rfl, hfl1, hfl2⟩ := HLT7.out
  rw [HF.out] at hfl1 hfl2 ⊢
  by_cases hf0 : f = 0
  case neg =>
    have hq1 : (f == 0) = false := by simpa using hf0
    have hq2 : (f != 0) = true := by simpa using hf0
    have hbe : be = f ∧ bn = 0 := by
      rcases HBT7.out with ⟨_, h1, h2⟩ | ⟨h1, _⟩ | ⟨h1, _⟩
      · exact ⟨h1.trans HF.out, h2⟩
      · exact absurd (HF.out.symm.trans h1) hf0
      · exact absurd (HF.out.symm.trans h1) hf0
    obtain ⟨rfl, rfl⟩ := hbe
    obtain rfl := hfl1 hf0
    clear hfl1 hfl2 HBT7 HLT7 HF
    go_wp2_with (go_at_call 18; refine (HAW.out _).mono ?_; rintro _ w8 ⟨rfl, hb8⟩; have HB8 := Lib.hid (HA7.out.below hb8).fr; clear hb8)
    go_ret
    exact ⟨rfl, HB8.out⟩
  subst hf0
  have hok := Okt.of_fault HF.out
  have hokr := hok.toR
  have ng2 := hok.ng2; have ng4 := hok.ng4; have nc4 := hok.nc4; have nc1 := hok.nc1
  have HOK := Lib.hid hok
  obtain ⟨hfa, hfb⟩ := hfl2 rfl
  clear hfl1 hfl2 HLT7
  have HAG : Hid (Calls Try.prog 25 #[.agg #[.slice uca t.nc ucc, .slice uba t.nb ubc, .slice ura t.nr urc, .slice una t.nn unc], .agg (outL off0).toArray] w7 fun e w' => e = .returned (.bool (t.agree off0)) ∧ Below w7.heap.size w7 w') := ragree_any ⟨uca, ucc, uba, ubc, ura, urc, una, unc⟩ t off0 w7 (HT0.out.l.below HA7.out.fr) hokr HSS.out
  rw [off0_L] at HAG
  have k0 := HA7.out.cell (.head _) 0
  have k1 := HA7.out.cell (.head _) 1
  have k2 := HA7.out.cell (.head _) 2
  have k3 := HA7.out.cell (.head _) 3
  cases hag : t.agree off0
  · rw [hag] at HAG
    obtain ⟨rfl, lb, rfl, hlb, hlc⟩ := hfb hag
    have hbe : be = 9 ∧ bn = 0 := by
      rcases HBT7.out with ⟨h1, _⟩ | ⟨_, _, h1, h2⟩ | ⟨_, h1, _⟩
      · exact absurd HF.out h1
      · exact ⟨h1, h2⟩
      · rw [hag] at h1; cases h1
    obtain ⟨rfl, rfl⟩ := hbe
    have HLC : Hid (∀ X, Below w7.heap.size w7 X → X.cell? ⟨lb, 0, none⟩ = some (.int .i64 0)) := fun X hX => kept hX hlb hlc
    clear hfa hfb hlc hlb hag HBT7 HF hok hokr
    go_wp2_with fail
    refine HAG.out.mono ?_
    rintro _ w8 ⟨rfl, hb8⟩
    have HA8 := Lib.hid (HA7.out.below hb8)
    have x0 := HLC.out _ hb8
    clear k0 k1 k2 k3 hb8 HAG HLC
    go_wp2_with (go_at_call 18; refine (HAW.out _).mono ?_; rintro _ w9 ⟨rfl, hb9⟩; have HB9 := Lib.hid (HA8.out.below hb9).fr; clear hb9)
    go_ret
    exact ⟨rfl, HB9.out⟩
  rw [hag] at HAG
  obtain rfl := hfa hag
  have hbe : be = 0 ∧ bn = t.nc ∧ RowsAt w7 (.slice ba bn bc) t.nc (fun _ => t.ng) (bndR t off0) := by
    rcases HBT7.out with ⟨h1, _⟩ | ⟨_, h1, _⟩ | ⟨_, _, h1, h2, h3⟩
    · exact absurd HF.out h1
    · rw [hag] at h1; cases h1
    · exact ⟨h1, h2, h3⟩
  obtain ⟨rfl, rfl, hrows⟩ := hbe
  have hups := ups_okb hok hag
  have hnb : t.nb + 1 = t.nc := by have := hok.nb; omega
  have HUP : Hid (∀ X c g, Below w.heap.size w X → c < t.nc → g < t.ng → Calls Try.prog 44 #[.agg #[.slice uca t.nc ucc, .slice uba t.nb ubc, .slice ura t.nr urc, .slice una t.nn unc], .int .i64 (c : Nat), .int .i64 (g : Nat), .agg (outL off0).toArray] X fun e w' => ∃ q, e = .returned (.agg (stA q)) ∧ IvS q (t.up off0 c g) ∧ Below X.heap.size X w') := fun X c g hX hc hg => rup_all off0 HOK.out.toR HSS.out hc ⟨uca, ucc, uba, ubc, ura, urc, una, unc⟩ g X (HT0.out.l.below hX) hg
  have HDN : Hid (∀ X c g, Below w.heap.size w X → c < t.nc → g < t.ng → Calls Try.prog 29 #[.agg #[.slice uca t.nc ucc, .slice uba t.nb ubc, .slice ura t.nr urc, .slice una t.nn unc], .int .i64 (c : Nat), .int .i64 (g : Nat), .agg (outL off0).toArray] X fun e w' => ∃ q, e = .returned (.agg (stA q)) ∧ DnS t off0 c g q ∧ Below X.heap.size X w') := fun X c g hX hc hg => down_all HOK.out.toR HSS.out hnb hups (t.nc - 1 - c) c (by omega) ⟨uca, ucc, uba, ubc, ura, urc, una, unc⟩ g X (HT0.out.l.below hX) hg
  have HEN : Hid (∀ P D X c g, c < t.nc → g < t.ng → IvS P (t.up off0 c g) → DnS t off0 c g D → Calls Try.prog 26 #[.agg (stA fun m => P m && D m)] X fun e w' => e = .returned (.tuple #[.agg #[.int .i64 (bndR t off0 c g).1, .int .i64 (bndR t off0 c g).2], .bool true]) ∧ Below X.heap.size X w') := fun P D X c g hc hg h1 h2 => by
    obtain ⟨a, b⟩ := both_bnd HOK.out.toR hnb hups hc hg h1 h2
    exact ends_bnd X a b
  rw [off0_L] at HUP HDN
  have HRW := Lib.hid hrows
  clear hrows hups hnb hok hokr hag hfa hfb HBT7 HF HSS HT0
  go_wp2_with fail
  refine HAG.out.mono ?_
  rintro _ w8 ⟨rfl, hb8⟩
  have HA8 := Lib.hid (HA7.out.below hb8); have HRW8 := Lib.hid (HRW.out.below hb8)
  clear k0 k1 k2 k3 hb8 HAG HRW HA7
  have k0 := HA8.out.cell (.head _) 0
  have k1 := HA8.out.cell (.head _) 1
  have k2 := HA8.out.cell (.head _) 2
  have k3 := HA8.out.cell (.head _) 3
  go_wp2_with fail
  clear k0 k1 k2 k3
  go_loopw [8] (fun i wr => ∃ c : Nat, c ≤ t.nc ∧ i = .int .i64 c ∧ Below w8.heap.size w8 wr) (fun i _ => t.nc - (intOf i).toNat)
  case atStart => exact ⟨0, Nat.zero_le _, rfl, Below.refl _ _⟩
  case round =>
    obtain ⟨c, hc, rfl, hbx⟩ := hrel
    rename World => wx
    have HBX := Lib.hid hbx
    clear hbx
    have ci : (0 : Int) ≤ (c : Int) := by omega
    by_cases hlt : c < t.nc
    · as_aux_lemma =>
      have cj : (c : Int) < (t.nc : Int) := by omega
      obtain ⟨sb, so, ra, rc, rfl, hsb, x1, hsr⟩ := HRW8.out.at (k := c) hlt
      have HSR := Lib.hid hsr
      have HC15 : Hid (∀ X, Below w8.heap.size w8 X → (X.cell? ⟨w.heap.size, 0, none⟩ = some (.slice uca t.nc ucc) ∧ X.cell? ⟨w.heap.size, 1, none⟩ = some (.slice uba t.nb ubc) ∧ X.cell? ⟨w.heap.size, 2, none⟩ = some (.slice ura t.nr urc) ∧ X.cell? ⟨w.heap.size, 3, none⟩ = some (.slice una t.nn unc) ∧ X.cell? ⟨sb, so + c, none⟩ = some (.slice ra t.ng rc))) := fun X hX => by
        have h := HA8.out.below hX
        exact ⟨h.cell (.head _) 0, h.cell (.head _) 1, h.cell (.head _) 2, h.cell (.head _) 3, kept hX hsb x1⟩
      clear x1 hsb hsr
      go_wp2_with fail
      go_cut [113] (fun s113 wy => s113 = .bool false ∧ Below w8.heap.size w8 wy)
      case first => as_aux_lemma =>
        have HAX := Lib.hid (HBX.out.drew)
        refine wp_region_held_drew (S := fun X => X.cell? ⟨w.heap.size, 0, none⟩ = some (.slice uca t.nc ucc) ∧ X.cell? ⟨w.heap.size, 1, none⟩ = some (.slice uba t.nb ubc) ∧ X.cell? ⟨w.heap.size, 2, none⟩ = some (.slice ura t.nr urc) ∧ X.cell? ⟨w.heap.size, 3, none⟩ = some (.slice una t.nn unc) ∧ X.cell? ⟨sb, so + c, none⟩ = some (.slice ra t.ng rc)) (by kernel_rfl) (HC15.out _ HAX.out) (fun hS => ?_)
        generalize wx.drew = X at *
        refine tk [0, 1, 2, 3, 4, 5] ?_
        repeat (refine tkH (oi := ⟨_, _, _, _, _, _⟩) (v := ?_) rfl (by kernel_rfl) (by rfl) (fun _ _ _ h => h) hS ?_ ?_; rotate_left; (· rintro W' ⟨z0, z1, z2, z3, z4⟩; go_simp; try with_reducible rfl); try simp only [Act.put, putA, putZ, putS])
        refine tk0 ?_
        refine wpAnyH_ready (rs := [6]) (by kernel_rfl) (by simp) ?_
        refine AllReadyH.cons (o := ⟨some 112, _, _, _, _, _⟩) rfl (fun K hK => ?_) AllReadyH.nil
        go_simp
        refine (HGR.out _ (HA8.out.below HAX.out).fr).mono ?_
        rintro _ X0 ⟨rfl, hb0⟩
        (try go_wp2_with fail)
        have HA0 := Lib.hid (below_step HAX.out hb0)
        refine hK.out _ _ (HC15.out X0 HA0.out) (fun hS => ?_)
        clear hK K
        try simp only [Act.put, putA, putZ, putS]
        clear hb0
        refine tH 7 (oi := ⟨_, _, _, _, _, _⟩) (v := .bool false) rfl (by kernel_rfl) (by rfl) (fun _ _ _ h => h) hS ?_ ?_
        · rintro W' ⟨z0, z1, z2, z3, z4⟩; go_simp; (try simp)
        try simp only [Act.put, putA, putZ, putS]
        refine wpAnyH_done (by kernel_rfl) ?_ _
        go_wp2_with fail
        go_meet
        exact ⟨by trivial, HA0.out⟩
      rename World => wy
      obtain ⟨rfl, hby⟩ := hcut
      have HBY := Lib.hid hby
      clear hby HBX
      go_wp2_with fail
      go_loopw [9] (fun i wr => ∃ g : Nat, g ≤ t.ng ∧ i = .int .i64 g ∧ Below w8.heap.size w8 wr) (fun i _ => t.ng - (intOf i).toNat)
      case atStart => exact ⟨0, Nat.zero_le _, rfl, HBY.out⟩
      case round =>
        obtain ⟨g, hg, rfl, hbx⟩ := hrel
        rename World => wv
        have HBX := Lib.hid hbx
        clear hbx HBY
        have gi : (0 : Int) ≤ (g : Int) := by omega
        obtain ⟨k0, k1, k2, k3, x1⟩ := HC15.out _ HBX.out
        by_cases hlg : g < t.ng
        · as_aux_lemma =>
          have gj : (g : Int) < (t.ng : Int) := by omega
          obtain ⟨rb, ro, rfl, hrb, x3, x4⟩ := HSR.out.at (k := g) hlg
          have HUP2 : Hid (∀ X, Below w8.heap.size w8 X → Calls Try.prog 44 #[.agg #[.slice uca t.nc ucc, .slice uba t.nb ubc, .slice ura t.nr urc, .slice una t.nn unc], .int .i64 (c : Nat), .int .i64 (g : Nat), .agg #[.bool false, .bool false, .bool false, .bool false, .bool false, .bool false, .bool false, .bool false, .bool false, .bool false, .bool false, .bool false, .bool false, .bool false, .bool false, .bool false]] X fun e w' => ∃ q, e = .returned (.agg (stA q)) ∧ IvS q (t.up off0 c g) ∧ Below X.heap.size X w') := fun X hX => HUP.out X c g (HA8.out.below hX).fr hlt hlg
          have HDN2 : Hid (∀ X, Below w8.heap.size w8 X → Calls Try.prog 29 #[.agg #[.slice uca t.nc ucc, .slice uba t.nb ubc, .slice ura t.nr urc, .slice una t.nn unc], .int .i64 (c : Nat), .int .i64 (g : Nat), .agg #[.bool false, .bool false, .bool false, .bool false, .bool false, .bool false, .bool false, .bool false, .bool false, .bool false, .bool false, .bool false, .bool false, .bool false, .bool false, .bool false]] X fun e w' => ∃ q, e = .returned (.agg (stA q)) ∧ DnS t off0 c g q ∧ Below X.heap.size X w') := fun X hX => HDN.out X c g (HA8.out.below hX).fr hlt hlg
          obtain ⟨B1, B2, hB⟩ : ∃ B1 B2, bndR t off0 c g = (B1, B2) := ⟨_, _, rfl⟩
          rw [hB] at x3 x4
          have HEN2 : Hid (∀ P D X, IvS P (t.up off0 c g) → DnS t off0 c g D → Calls Try.prog 26 #[.agg (stA fun m => P m && D m)] X fun e w' => e = .returned (.tuple #[.agg #[.int .i64 B1, .int .i64 B2], .bool true]) ∧ Below X.heap.size X w') := fun P D X h1 h2 => by
            have h := HEN.out P D X c g hlt hlg h1 h2
            rw [hB] at h
            exact h
          have HC20 : Hid (∀ X, Below w8.heap.size w8 X → (X.cell? ⟨w.heap.size, 0, none⟩ = some (.slice uca t.nc ucc) ∧ X.cell? ⟨w.heap.size, 1, none⟩ = some (.slice uba t.nb ubc) ∧ X.cell? ⟨w.heap.size, 2, none⟩ = some (.slice ura t.nr urc) ∧ X.cell? ⟨w.heap.size, 3, none⟩ = some (.slice una t.nn unc))) := fun X hX => by
            have h := HA8.out.below hX
            exact ⟨h.cell (.head _) 0, h.cell (.head _) 1, h.cell (.head _) 2, h.cell (.head _) 3⟩
          have HC21 : Hid (∀ X, Below w8.heap.size w8 X → (X.cell? ⟨sb, so + c, none⟩ = some (.slice (some ⟨rb, ro, none⟩) t.ng rc) ∧ X.cell? ⟨rb, ro + g * 2, none⟩ = some (.int .i64 B1) ∧ X.cell? ⟨rb, ro + g * 2 + 1, none⟩ = some (.int .i64 B2))) := fun X hX => ⟨(HC15.out _ hX).2.2.2.2, kept hX hrb x3, kept hX hrb x4⟩
          clear x3 x4 hrb hB HUP HDN HEN
          go_wp2_with fail
          clear k0 k1 k2 k3 x1
          go_cut [10, 11] (fun s10 s11 wy => ∃ R, s10 = .pointer (some ⟨R, 0, none⟩) ∧ s11 = .bool true ∧ BF wv wy [(R, #[.int .i64 B1, .int .i64 B2], 43)])
          case first => as_aux_lemma =>
            have HAX : Hid (BF wv wv.drew []) := (BF.base wv).below (Below.refl _ wv).drew
            refine wp_region_held_drew (S := fun X => X.cell? ⟨w.heap.size, 0, none⟩ = some (.slice uca t.nc ucc) ∧ X.cell? ⟨w.heap.size, 1, none⟩ = some (.slice uba t.nb ubc) ∧ X.cell? ⟨w.heap.size, 2, none⟩ = some (.slice ura t.nr urc) ∧ X.cell? ⟨w.heap.size, 3, none⟩ = some (.slice una t.nn unc)) (by kernel_rfl) (HC20.out _ (below_step HBX.out HAX.out.fr)) (fun hS => ?_)
            generalize wv.drew = X at *
            refine tk [0, 1, 2, 3, 5, 6, 7, 8] ?_
            repeat (refine tkH (oi := ⟨_, _, _, _, _, _⟩) (v := ?_) rfl (by kernel_rfl) (by rfl) (fun _ _ _ h => h) hS ?_ ?_; rotate_left; (· rintro W' ⟨z0, z1, z2, z3⟩; go_simp; try with_reducible rfl); try simp only [Act.put, putA, putZ, putS])
            refine tk0 ?_
            refine wpAnyH_ready (rs := [4, 15]) (by kernel_rfl) (by simp) ?_
            refine AllReadyH.cons (o := ⟨some 128, _, _, _, _, _⟩) rfl (fun K hK => ?_) ?_
            ·
             go_simp
             refine (HUP2.out _ (below_step HBX.out HAX.out.fr)).mono ?_
             rintro _ X0 ⟨P, rfl, hP, hb0⟩
             (try go_wp2_with fail)
             have HA0 := Lib.hid (HAX.out.below hb0)
             have HP := Lib.hid hP
             clear hP
             refine hK.out _ _ (HC20.out X0 (below_step HBX.out HA0.out.fr)) (fun hS => ?_)
             clear hK K
             try simp only [Act.put, putA, putZ, putS]
             clear hb0
             refine wpAnyH_ready (rs := [9, 15]) (by kernel_rfl) (by simp) ?_
             refine AllReadyH.cons (o := ⟨some 133, _, _, _, _, _⟩) rfl (fun K hK => ?_) ?_
             ·
              go_simp
              refine (HDN2.out _ (below_step HBX.out HA0.out.fr)).mono ?_
              rintro _ X1 ⟨D, rfl, hD, hb1⟩
              (try go_wp2_with fail)
              have HA1 := Lib.hid (HA0.out.below hb1)
              have HD := Lib.hid hD
              clear hD
              refine hK.out _ _ (HC20.out X1 (below_step HBX.out HA1.out.fr)) (fun hS => ?_)
              clear hK K
              try simp only [Act.put, putA, putZ, putS]
              clear hb1
              refine wpAnyH_ready (rs := [10, 15]) (by kernel_rfl) (by simp) ?_
              refine AllReadyH.cons (o := ⟨some 134, _, _, _, _, _⟩) rfl (fun K hK => ?_) ?_
              ·
               go_simp
               refine (both_any P D _).mono ?_
               rintro _ X2 ⟨rfl, hb2⟩
               (try go_wp2_with fail)
               have HA2 := Lib.hid (HA1.out.below hb2)
               refine hK.out _ _ (HC20.out X2 (below_step HBX.out HA2.out.fr)) (fun hS => ?_)
               clear hK K
               try simp only [Act.put, putA, putZ, putS]
               clear hb2
               refine wpAnyH_ready (rs := [11, 15]) (by kernel_rfl) (by simp) ?_
               refine AllReadyH.cons (o := ⟨some 135, _, _, _, _, _⟩) rfl (fun K hK => ?_) ?_
               ·
                go_simp
                refine (HEN2.out P D _ HP.out HD.out).mono ?_
                rintro _ X3 ⟨rfl, hb3⟩
                (try go_wp2_with fail)
                have HA3 := Lib.hid (HA2.out.below hb3)
                refine hK.out _ _ (HC20.out X3 (below_step HBX.out HA3.out.fr)) (fun hS => ?_)
                clear hK K
                try simp only [Act.put, putA, putZ, putS]
                clear hb3
                refine tk [12, 13, 14] ?_
                repeat (refine tkH (oi := ⟨_, _, _, _, _, _⟩) (v := ?_) rfl (by kernel_rfl) (by rfl) (fun _ _ _ h => h) hS ?_ ?_; rotate_left; (· rintro W' ⟨z0, z1, z2, z3⟩; go_simp; try with_reducible rfl); try simp only [Act.put, putA, putZ, putS])
                refine tk0 ?_
                refine wpAnyH_ready (rs := [15]) (by kernel_rfl) (by simp) ?_
                refine AllReadyH.cons (o := ⟨some 10, _, _, _, _, _⟩) rfl (fun K hK => ?_) AllReadyH.nil
                go_simp
                have HA4 := Lib.hid (HA3.out.alloc #[.int .i64 0, .int .i64 0] 43)
                have hn4_ := HA3.out.fr.size
                refine hK.out _ _ (HC20.out (X3.alloc (.cells #[.int .i64 0, .int .i64 0] 43)) (below_step HBX.out HA4.out.fr)) (fun hS => ?_)
                clear hK K
                try simp only [Act.put, putA, putZ, putS]
                generalize X3.heap.size = R4 at *
                generalize (X3.alloc (.cells #[.int .i64 0, .int .i64 0] 43)) = X4 at *
                refine wpAnyH_ready (rs := [16]) (by kernel_rfl) (by simp) ?_
                refine AllReadyH.cons (o := ⟨none, _, _, _, _, _⟩) rfl (fun K hK => ?_) AllReadyH.nil
                have e0 := HA4.out.cell (.head _) 0
                have e1 := HA4.out.cell (.head _) 1
                have f0 := HA4.out.thaw (.head _) 0
                have f1 := HA4.out.thaw (.head _) 1
                have HA5 := Lib.hid (BF.set2 HA4.out (.head _) (.int .i64 B1) (.int .i64 B2) (L' := []) (List.forall_mem_nil _))
                go_simp
                refine hK.out _ _ (HC20.out ((X4.setCell ⟨R4, 0, none⟩ (.int .i64 B1)).setCell ⟨R4, 1, none⟩ (.int .i64 B2)) (below_step HBX.out HA5.out.fr)) (fun hS => ?_)
                clear hK K
                (try simp only [Act.put])
                clear e0 e1 f0 f1
                refine tH 17 (oi := ⟨_, _, _, _, _, _⟩) (v := ?_) rfl (by kernel_rfl) (by rfl) (fun _ _ _ h => h) hS ?_ ?_
                rotate_left
                · rintro W' ⟨z0, z1, z2, z3⟩; go_simp; try with_reducible rfl
                try simp only [Act.put, putA, putZ, putS]
                refine wpAnyH_done (by kernel_rfl) ?_ _
                go_wp2_with fail
                go_meet
                exact ⟨_, rfl, rfl, HA5.out⟩
               refine AllReadyH.cons (o := ⟨some 10, _, _, _, _, _⟩) rfl (fun K hK => ?_) AllReadyH.nil
               go_simp
               have HA6 := Lib.hid (HA2.out.alloc #[.int .i64 0, .int .i64 0] 43)
               have hn6_ := HA2.out.fr.size
               refine hK.out _ _ (HC20.out (X2.alloc (.cells #[.int .i64 0, .int .i64 0] 43)) (below_step HBX.out HA6.out.fr)) (fun hS => ?_)
               clear hK K
               try simp only [Act.put, putA, putZ, putS]
               generalize X2.heap.size = R6 at *
               generalize (X2.alloc (.cells #[.int .i64 0, .int .i64 0] 43)) = X6 at *
               refine wpAnyH_ready (rs := [11]) (by kernel_rfl) (by simp) ?_
               refine AllReadyH.cons (o := ⟨some 135, _, _, _, _, _⟩) rfl (fun K hK => ?_) AllReadyH.nil
               go_simp
               refine (HEN2.out P D _ HP.out HD.out).mono ?_
               rintro _ X7 ⟨rfl, hb7⟩
               (try go_wp2_with fail)
               have HA7 := Lib.hid (HA6.out.below hb7)
               refine hK.out _ _ (HC20.out X7 (below_step HBX.out HA7.out.fr)) (fun hS => ?_)
               clear hK K
               try simp only [Act.put, putA, putZ, putS]
               clear hb7
               refine tk [12, 13, 14] ?_
               repeat (refine tkH (oi := ⟨_, _, _, _, _, _⟩) (v := ?_) rfl (by kernel_rfl) (by rfl) (fun _ _ _ h => h) hS ?_ ?_; rotate_left; (· rintro W' ⟨z0, z1, z2, z3⟩; go_simp; try with_reducible rfl); try simp only [Act.put, putA, putZ, putS])
               refine tk0 ?_
               refine wpAnyH_ready (rs := [16]) (by kernel_rfl) (by simp) ?_
               refine AllReadyH.cons (o := ⟨none, _, _, _, _, _⟩) rfl (fun K hK => ?_) AllReadyH.nil
               have e0 := HA7.out.cell (.head _) 0
               have e1 := HA7.out.cell (.head _) 1
               have f0 := HA7.out.thaw (.head _) 0
               have f1 := HA7.out.thaw (.head _) 1
               have HA8 := Lib.hid (BF.set2 HA7.out (.head _) (.int .i64 B1) (.int .i64 B2) (L' := []) (List.forall_mem_nil _))
               go_simp
               refine hK.out _ _ (HC20.out ((X7.setCell ⟨R6, 0, none⟩ (.int .i64 B1)).setCell ⟨R6, 1, none⟩ (.int .i64 B2)) (below_step HBX.out HA8.out.fr)) (fun hS => ?_)
               clear hK K
               (try simp only [Act.put])
               clear e0 e1 f0 f1
               refine tH 17 (oi := ⟨_, _, _, _, _, _⟩) (v := ?_) rfl (by kernel_rfl) (by rfl) (fun _ _ _ h => h) hS ?_ ?_
               rotate_left
               · rintro W' ⟨z0, z1, z2, z3⟩; go_simp; try with_reducible rfl
               try simp only [Act.put, putA, putZ, putS]
               refine wpAnyH_done (by kernel_rfl) ?_ _
               go_wp2_with fail
               go_meet
               exact ⟨_, rfl, rfl, HA8.out⟩
              refine AllReadyH.cons (o := ⟨some 10, _, _, _, _, _⟩) rfl (fun K hK => ?_) AllReadyH.nil
              go_simp
              have HA9 := Lib.hid (HA1.out.alloc #[.int .i64 0, .int .i64 0] 43)
              have hn9_ := HA1.out.fr.size
              refine hK.out _ _ (HC20.out (X1.alloc (.cells #[.int .i64 0, .int .i64 0] 43)) (below_step HBX.out HA9.out.fr)) (fun hS => ?_)
              clear hK K
              try simp only [Act.put, putA, putZ, putS]
              generalize X1.heap.size = R9 at *
              generalize (X1.alloc (.cells #[.int .i64 0, .int .i64 0] 43)) = X9 at *
              refine wpAnyH_ready (rs := [10]) (by kernel_rfl) (by simp) ?_
              refine AllReadyH.cons (o := ⟨some 134, _, _, _, _, _⟩) rfl (fun K hK => ?_) AllReadyH.nil
              go_simp
              refine (both_any P D _).mono ?_
              rintro _ X10 ⟨rfl, hb10⟩
              (try go_wp2_with fail)
              have HA10 := Lib.hid (HA9.out.below hb10)
              refine hK.out _ _ (HC20.out X10 (below_step HBX.out HA10.out.fr)) (fun hS => ?_)
              clear hK K
              try simp only [Act.put, putA, putZ, putS]
              clear hb10
              refine wpAnyH_ready (rs := [11]) (by kernel_rfl) (by simp) ?_
              refine AllReadyH.cons (o := ⟨some 135, _, _, _, _, _⟩) rfl (fun K hK => ?_) AllReadyH.nil
              go_simp
              refine (HEN2.out P D _ HP.out HD.out).mono ?_
              rintro _ X11 ⟨rfl, hb11⟩
              (try go_wp2_with fail)
              have HA11 := Lib.hid (HA10.out.below hb11)
              refine hK.out _ _ (HC20.out X11 (below_step HBX.out HA11.out.fr)) (fun hS => ?_)
              clear hK K
              try simp only [Act.put, putA, putZ, putS]
              clear hb11
              refine tk [12, 13, 14] ?_
              repeat (refine tkH (oi := ⟨_, _, _, _, _, _⟩) (v := ?_) rfl (by kernel_rfl) (by rfl) (fun _ _ _ h => h) hS ?_ ?_; rotate_left; (· rintro W' ⟨z0, z1, z2, z3⟩; go_simp; try with_reducible rfl); try simp only [Act.put, putA, putZ, putS])
              refine tk0 ?_
              refine wpAnyH_ready (rs := [16]) (by kernel_rfl) (by simp) ?_
              refine AllReadyH.cons (o := ⟨none, _, _, _, _, _⟩) rfl (fun K hK => ?_) AllReadyH.nil
              have e0 := HA11.out.cell (.head _) 0
              have e1 := HA11.out.cell (.head _) 1
              have f0 := HA11.out.thaw (.head _) 0
              have f1 := HA11.out.thaw (.head _) 1
              have HA12 := Lib.hid (BF.set2 HA11.out (.head _) (.int .i64 B1) (.int .i64 B2) (L' := []) (List.forall_mem_nil _))
              go_simp
              refine hK.out _ _ (HC20.out ((X11.setCell ⟨R9, 0, none⟩ (.int .i64 B1)).setCell ⟨R9, 1, none⟩ (.int .i64 B2)) (below_step HBX.out HA12.out.fr)) (fun hS => ?_)
              clear hK K
              (try simp only [Act.put])
              clear e0 e1 f0 f1
              refine tH 17 (oi := ⟨_, _, _, _, _, _⟩) (v := ?_) rfl (by kernel_rfl) (by rfl) (fun _ _ _ h => h) hS ?_ ?_
              rotate_left
              · rintro W' ⟨z0, z1, z2, z3⟩; go_simp; try with_reducible rfl
              try simp only [Act.put, putA, putZ, putS]
              refine wpAnyH_done (by kernel_rfl) ?_ _
              go_wp2_with fail
              go_meet
              exact ⟨_, rfl, rfl, HA12.out⟩
             refine AllReadyH.cons (o := ⟨some 10, _, _, _, _, _⟩) rfl (fun K hK => ?_) AllReadyH.nil
             go_simp
             have HA13 := Lib.hid (HA0.out.alloc #[.int .i64 0, .int .i64 0] 43)
             have hn13_ := HA0.out.fr.size
             refine hK.out _ _ (HC20.out (X0.alloc (.cells #[.int .i64 0, .int .i64 0] 43)) (below_step HBX.out HA13.out.fr)) (fun hS => ?_)
             clear hK K
             try simp only [Act.put, putA, putZ, putS]
             generalize X0.heap.size = R13 at *
             generalize (X0.alloc (.cells #[.int .i64 0, .int .i64 0] 43)) = X13 at *
             refine wpAnyH_ready (rs := [9]) (by kernel_rfl) (by simp) ?_
             refine AllReadyH.cons (o := ⟨some 133, _, _, _, _, _⟩) rfl (fun K hK => ?_) AllReadyH.nil
             go_simp
             refine (HDN2.out _ (below_step HBX.out HA13.out.fr)).mono ?_
             rintro _ X14 ⟨D, rfl, hD, hb14⟩
             (try go_wp2_with fail)
             have HA14 := Lib.hid (HA13.out.below hb14)
             have HD := Lib.hid hD
             clear hD
             refine hK.out _ _ (HC20.out X14 (below_step HBX.out HA14.out.fr)) (fun hS => ?_)
             clear hK K
             try simp only [Act.put, putA, putZ, putS]
             clear hb14
             refine wpAnyH_ready (rs := [10]) (by kernel_rfl) (by simp) ?_
             refine AllReadyH.cons (o := ⟨some 134, _, _, _, _, _⟩) rfl (fun K hK => ?_) AllReadyH.nil
             go_simp
             refine (both_any P D _).mono ?_
             rintro _ X15 ⟨rfl, hb15⟩
             (try go_wp2_with fail)
             have HA15 := Lib.hid (HA14.out.below hb15)
             refine hK.out _ _ (HC20.out X15 (below_step HBX.out HA15.out.fr)) (fun hS => ?_)
             clear hK K
             try simp only [Act.put, putA, putZ, putS]
             clear hb15
             refine wpAnyH_ready (rs := [11]) (by kernel_rfl) (by simp) ?_
             refine AllReadyH.cons (o := ⟨some 135, _, _, _, _, _⟩) rfl (fun K hK => ?_) AllReadyH.nil
             go_simp
             refine (HEN2.out P D _ HP.out HD.out).mono ?_
             rintro _ X16 ⟨rfl, hb16⟩
             (try go_wp2_with fail)
             have HA16 := Lib.hid (HA15.out.below hb16)
             refine hK.out _ _ (HC20.out X16 (below_step HBX.out HA16.out.fr)) (fun hS => ?_)
             clear hK K
             try simp only [Act.put, putA, putZ, putS]
             clear hb16
             refine tk [12, 13, 14] ?_
             repeat (refine tkH (oi := ⟨_, _, _, _, _, _⟩) (v := ?_) rfl (by kernel_rfl) (by rfl) (fun _ _ _ h => h) hS ?_ ?_; rotate_left; (· rintro W' ⟨z0, z1, z2, z3⟩; go_simp; try with_reducible rfl); try simp only [Act.put, putA, putZ, putS])
             refine tk0 ?_
             refine wpAnyH_ready (rs := [16]) (by kernel_rfl) (by simp) ?_
             refine AllReadyH.cons (o := ⟨none, _, _, _, _, _⟩) rfl (fun K hK => ?_) AllReadyH.nil
             have e0 := HA16.out.cell (.head _) 0
             have e1 := HA16.out.cell (.head _) 1
             have f0 := HA16.out.thaw (.head _) 0
             have f1 := HA16.out.thaw (.head _) 1
             have HA17 := Lib.hid (BF.set2 HA16.out (.head _) (.int .i64 B1) (.int .i64 B2) (L' := []) (List.forall_mem_nil _))
             go_simp
             refine hK.out _ _ (HC20.out ((X16.setCell ⟨R13, 0, none⟩ (.int .i64 B1)).setCell ⟨R13, 1, none⟩ (.int .i64 B2)) (below_step HBX.out HA17.out.fr)) (fun hS => ?_)
             clear hK K
             (try simp only [Act.put])
             clear e0 e1 f0 f1
             refine tH 17 (oi := ⟨_, _, _, _, _, _⟩) (v := ?_) rfl (by kernel_rfl) (by rfl) (fun _ _ _ h => h) hS ?_ ?_
             rotate_left
             · rintro W' ⟨z0, z1, z2, z3⟩; go_simp; try with_reducible rfl
             try simp only [Act.put, putA, putZ, putS]
             refine wpAnyH_done (by kernel_rfl) ?_ _
             go_wp2_with fail
             go_meet
             exact ⟨_, rfl, rfl, HA17.out⟩
            refine AllReadyH.cons (o := ⟨some 10, _, _, _, _, _⟩) rfl (fun K hK => ?_) AllReadyH.nil
            go_simp
            have HA18 := Lib.hid (HAX.out.alloc #[.int .i64 0, .int .i64 0] 43)
            have hn18_ := HAX.out.fr.size
            refine hK.out _ _ (HC20.out (X.alloc (.cells #[.int .i64 0, .int .i64 0] 43)) (below_step HBX.out HA18.out.fr)) (fun hS => ?_)
            clear hK K
            try simp only [Act.put, putA, putZ, putS]
            generalize X.heap.size = R18 at *
            generalize (X.alloc (.cells #[.int .i64 0, .int .i64 0] 43)) = X18 at *
            refine wpAnyH_ready (rs := [4]) (by kernel_rfl) (by simp) ?_
            refine AllReadyH.cons (o := ⟨some 128, _, _, _, _, _⟩) rfl (fun K hK => ?_) AllReadyH.nil
            go_simp
            refine (HUP2.out _ (below_step HBX.out HA18.out.fr)).mono ?_
            rintro _ X19 ⟨P, rfl, hP, hb19⟩
            (try go_wp2_with fail)
            have HA19 := Lib.hid (HA18.out.below hb19)
            have HP := Lib.hid hP
            clear hP
            refine hK.out _ _ (HC20.out X19 (below_step HBX.out HA19.out.fr)) (fun hS => ?_)
            clear hK K
            try simp only [Act.put, putA, putZ, putS]
            clear hb19
            refine wpAnyH_ready (rs := [9]) (by kernel_rfl) (by simp) ?_
            refine AllReadyH.cons (o := ⟨some 133, _, _, _, _, _⟩) rfl (fun K hK => ?_) AllReadyH.nil
            go_simp
            refine (HDN2.out _ (below_step HBX.out HA19.out.fr)).mono ?_
            rintro _ X20 ⟨D, rfl, hD, hb20⟩
            (try go_wp2_with fail)
            have HA20 := Lib.hid (HA19.out.below hb20)
            have HD := Lib.hid hD
            clear hD
            refine hK.out _ _ (HC20.out X20 (below_step HBX.out HA20.out.fr)) (fun hS => ?_)
            clear hK K
            try simp only [Act.put, putA, putZ, putS]
            clear hb20
            refine wpAnyH_ready (rs := [10]) (by kernel_rfl) (by simp) ?_
            refine AllReadyH.cons (o := ⟨some 134, _, _, _, _, _⟩) rfl (fun K hK => ?_) AllReadyH.nil
            go_simp
            refine (both_any P D _).mono ?_
            rintro _ X21 ⟨rfl, hb21⟩
            (try go_wp2_with fail)
            have HA21 := Lib.hid (HA20.out.below hb21)
            refine hK.out _ _ (HC20.out X21 (below_step HBX.out HA21.out.fr)) (fun hS => ?_)
            clear hK K
            try simp only [Act.put, putA, putZ, putS]
            clear hb21
            refine wpAnyH_ready (rs := [11]) (by kernel_rfl) (by simp) ?_
            refine AllReadyH.cons (o := ⟨some 135, _, _, _, _, _⟩) rfl (fun K hK => ?_) AllReadyH.nil
            go_simp
            refine (HEN2.out P D _ HP.out HD.out).mono ?_
            rintro _ X22 ⟨rfl, hb22⟩
            (try go_wp2_with fail)
            have HA22 := Lib.hid (HA21.out.below hb22)
            refine hK.out _ _ (HC20.out X22 (below_step HBX.out HA22.out.fr)) (fun hS => ?_)
            clear hK K
            try simp only [Act.put, putA, putZ, putS]
            clear hb22
            refine tk [12, 13, 14] ?_
            repeat (refine tkH (oi := ⟨_, _, _, _, _, _⟩) (v := ?_) rfl (by kernel_rfl) (by rfl) (fun _ _ _ h => h) hS ?_ ?_; rotate_left; (· rintro W' ⟨z0, z1, z2, z3⟩; go_simp; try with_reducible rfl); try simp only [Act.put, putA, putZ, putS])
            refine tk0 ?_
            refine wpAnyH_ready (rs := [16]) (by kernel_rfl) (by simp) ?_
            refine AllReadyH.cons (o := ⟨none, _, _, _, _, _⟩) rfl (fun K hK => ?_) AllReadyH.nil
            have e0 := HA22.out.cell (.head _) 0
            have e1 := HA22.out.cell (.head _) 1
            have f0 := HA22.out.thaw (.head _) 0
            have f1 := HA22.out.thaw (.head _) 1
            have HA23 := Lib.hid (BF.set2 HA22.out (.head _) (.int .i64 B1) (.int .i64 B2) (L' := []) (List.forall_mem_nil _))
            go_simp
            refine hK.out _ _ (HC20.out ((X22.setCell ⟨R18, 0, none⟩ (.int .i64 B1)).setCell ⟨R18, 1, none⟩ (.int .i64 B2)) (below_step HBX.out HA23.out.fr)) (fun hS => ?_)
            clear hK K
            (try simp only [Act.put])
            clear e0 e1 f0 f1
            refine tH 17 (oi := ⟨_, _, _, _, _, _⟩) (v := ?_) rfl (by kernel_rfl) (by rfl) (fun _ _ _ h => h) hS ?_ ?_
            rotate_left
            · rintro W' ⟨z0, z1, z2, z3⟩; go_simp; try with_reducible rfl
            try simp only [Act.put, putA, putZ, putS]
            refine wpAnyH_done (by kernel_rfl) ?_ _
            go_wp2_with fail
            go_meet
            exact ⟨_, rfl, rfl, HA23.out⟩
          rename World => wb
          obtain ⟨R, rfl, rfl, hbf⟩ := hcut
          have HAR := Lib.hid hbf
          clear hbf HUP2 HDN2 HEN2 HC20
          go_wp2_with fail
          go_cut [151] (fun s151 wy => s151 = .bool false ∧ Below w8.heap.size w8 wy)
          case first => as_aux_lemma =>
            have HAX := Lib.hid (HAR.out.below (Below.refl _ wb).drew)
            refine wp_region_held_drew (S := fun X => X.cell? ⟨sb, so + c, none⟩ = some (.slice (some ⟨rb, ro, none⟩) t.ng rc) ∧ X.cell? ⟨rb, ro + g * 2, none⟩ = some (.int .i64 B1) ∧ X.cell? ⟨rb, ro + g * 2 + 1, none⟩ = some (.int .i64 B2) ∧ X.cell? ⟨R, 0, none⟩ = some (.int .i64 B1) ∧ X.cell? ⟨R, 1, none⟩ = some (.int .i64 B2)) (by kernel_rfl) (⟨(HC21.out _ (below_step HBX.out HAX.out.fr)).1, (HC21.out _ (below_step HBX.out HAX.out.fr)).2.1, (HC21.out _ (below_step HBX.out HAX.out.fr)).2.2, HAX.out.cell (.head _) 0, HAX.out.cell (.head _) 1⟩) (fun hS => ?_)
            generalize wb.drew = X at *
            refine tk [0, 1, 2, 3, 4, 5, 6, 7, 8, 9, 10] ?_
            repeat (refine tkH (oi := ⟨_, _, _, _, _, _⟩) (v := ?_) rfl (by kernel_rfl) (by rfl) (fun _ _ _ h => h) hS ?_ ?_; rotate_left; (· rintro W' ⟨z0, z1, z2, z3, z4⟩; go_simp; try with_reducible rfl); try simp only [Act.put, putA, putZ, putS])
            refine tk0 ?_
            refine wpAnyH_ready (rs := [11]) (by kernel_rfl) (by simp) ?_
            refine AllReadyH.cons (o := ⟨some 149, _, _, _, _, _⟩) rfl (fun K hK => ?_) AllReadyH.nil
            go_simp
            refine (to_any B1 B2 _).mono ?_
            rintro _ X0 ⟨rfl, hb0⟩
            (try go_wp2_with fail)
            have HA0 := Lib.hid (HAX.out.below hb0)
            refine hK.out _ _ (⟨(HC21.out X0 (below_step HBX.out HA0.out.fr)).1, (HC21.out X0 (below_step HBX.out HA0.out.fr)).2.1, (HC21.out X0 (below_step HBX.out HA0.out.fr)).2.2, HA0.out.cell (.head _) 0, HA0.out.cell (.head _) 1⟩) (fun hS => ?_)
            clear hK K
            try simp only [Act.put, putA, putZ, putS]
            clear hb0
            refine tH 12 (oi := ⟨_, _, _, _, _, _⟩) (v := .bool false) rfl (by kernel_rfl) (by rfl) (fun _ _ _ h => h) hS ?_ ?_
            · rintro W' ⟨z0, z1, z2, z3, z4⟩; have hq := neq_rok B1 B2 W'; go_simp
            try simp only [Act.put, putA, putZ, putS]
            refine tH 13 (oi := ⟨_, _, _, _, _, _⟩) (v := ?_) rfl (by kernel_rfl) (by rfl) (fun _ _ _ h => h) hS ?_ ?_
            rotate_left
            · rintro W' ⟨z0, z1, z2, z3, z4⟩; go_simp; try with_reducible rfl
            try simp only [Act.put, putA, putZ, putS]
            refine wpAnyH_done (by kernel_rfl) ?_ _
            go_wp2_with fail
            go_meet
            exact ⟨by trivial, below_step HBX.out HA0.out.fr⟩
          rename World => wd
          obtain ⟨rfl, hbd⟩ := hcut
          have HBD := Lib.hid hbd
          clear hbd
          go_wp2_with fail
          go_roundw
          case rel => exact ⟨g + 1, by omega, by go_num, HBD.out⟩
          case measure => simp [intOf]; omega
        · obtain rfl : g = t.ng := by omega
          go_wp2_with fail
          go_roundw
          case rel => exact ⟨c + 1, by omega, by go_num, HBX.out⟩
          case measure => simp [intOf]; omega
    · obtain rfl : c = t.nc := by omega
      go_wp2_with (go_at_call 18; refine (HAW.out _).mono ?_; rintro _ w12 ⟨rfl, hb12⟩; have HB12 := Lib.hid ((HA8.out.below HBX.out).below hb12).fr; clear hb12)
      go_ret
      exact ⟨rfl, HB12.out⟩
end Go.Proofs.Ytjaoflfophcibaa
