/- The reference's Down. Printed by gen_ks.py. -/
import Derived.Test.YtjaoflfophcibaaKR
namespace Go.Proofs.Ytjaoflfophcibaa
open Go.RowKit Go.Shelf

def DownC (t : Tb) (out : Nat → Nat → Bool) (c : Nat) : Prop := ∀ (u : WV) (g : Nat) (w : World), WLi w u t → g < t.ng →
  Calls Try.prog 29 #[.agg #[u.cv t, u.bv t, u.rv t, u.nv t], .int .i64 c, .int .i64 g, .agg (outL out).toArray] w fun e w' => ∃ q, e = .returned (.agg (stA q)) ∧ DnS t out c g q ∧ Below w.heap.size w w'
set_option maxRecDepth 100000 in
set_option maxHeartbeats 4000000 in
theorem down_zero {t : Tb} (out : Nat → Nat → Bool) (ht : OkR t) : DownC t out (t.nc - 1) := by
  intro u g w _ _
  have hres := down_last (t := t) (out := out) (g := g) ht.nc1
  have hn1 := ht.nc1; have hn4 := ht.nc4
  obtain ⟨m, hm⟩ : ∃ m : Nat, (t.nc : Int) - 1 = (m : Int) := ⟨t.nc - 1, by omega⟩
  have hme : t.nc - 1 = m := by omega
  rw [hme] at hres ⊢
  have HRS := Lib.hid hres
  clear hme hres ht
  have HA0 : Hid (BF w (((w.alloc (.cells #[u.cv t, u.bv t, u.rv t, u.nv t] 25)).alloc (.cells (outL out).toArray 46)).alloc (.cells Try.zeroCells54 54)) [(w.heap.size, #[u.cv t, u.bv t, u.rv t, u.nv t], 25), (w.heap.size + 1, (outL out).toArray, 46), (w.heap.size + 2, stA fun _ => false, 54)]) := by
    have h := BF.made3 w #[u.cv t, u.bv t, u.rv t, u.nv t] (outL out).toArray Try.zeroCells54 25 46 54
    rw [stA_zero] at h ⊢
    exact h
  simp only [WV.cv, WV.bv, WV.rv, WV.nv] at HA0 ⊢
  have mi : (0 : Int) ≤ (m : Int) := by omega
  go_enter Try.func29, Try.ntmps29
  go_upto_region 1 with (refine wpList_box_row (o := ⟨some 7, .box 46 (.tmp 3), _, _, _, _⟩) rfl 46 (.tmp 3) rfl (outL out).toArray rfl ?_)
  have k0 := HA0.out.cell (.head _) 0
  generalize (((w.alloc (.cells #[.slice u.ca t.nc u.cc, .slice u.ba t.nb u.bc, .slice u.ra t.nr u.rc, .slice u.na t.nn u.nc] 25)).alloc (.cells (outL out).toArray 46)).alloc (.cells Try.zeroCells54 54)) = w1 at *
  go_wp2_with fail
  refine (filled_any 0 3000 _).mono ?_
  rintro _ w2 ⟨rfl, hb2⟩
  have HA := Lib.hid (HA0.out.below hb2)
  have HR : Hid (w2.heap[w.heap.size + 1 + 1]? = some (.cells (stA fun _ => false) 54 (0, 0))) := (HA.out.bk _ _ _ (.tail _ (.tail _ (.head _)))).2
  have HSZ := Lib.hid (stA_info (fillP 0 3000))
  clear hb2 k0
  go_wp2_with (refine wpList_store_row (o := ⟨none, .store 54 (.tmp 8) (.tmp 23), _, _, _, _⟩) rfl 54 (.tmp 8) (.tmp 23) rfl (w.heap.size + 1 + 1) (stA (fillP 0 3000)) rfl rfl 54 (stA fun _ => false) HR.out HSZ.out rfl (stA_one _) ?_)
  exact bodyPost_ret (v := .agg (stA (fillP 0 3000))) (results_cell_row rfl _ _ (w.heap.size + 1 + 1) 54 _ (0, 0) _ rfl (setRow_heap _ _ _ _ _ _ HR.out) Try.underlying54 rfl HSZ.out) rfl ⟨_, rfl, HRS.out, HA.out.fr.trans ⟨rfl, rfl, rfl, by simp, fun q hq => setRow_other _ _ _ _ (by omega)⟩⟩
/-- The goal, ahead of the other group that leads to the last one. -/
def Goal0 (t : Tb) (out : Nat → Nat → Bool) (c g : Nat) (s0 : Nat → Bool) : Prop :=
  ∃ O D, IvS O (t.own out (c + 1) (t.nx g)) ∧ DnS t out (c + 1) (t.nx g) D ∧ ∀ i, i < 3000 → (s0 i = true ↔ MovP (fun m => O m && D m) (-(t.n (t.nx g)).2) (-(t.n (t.nx g)).1) 3000 i)
set_option maxRecDepth 100000 in
set_option maxHeartbeats 8000000 in
theorem down_succ {t : Tb} {out : Nat → Nat → Bool} {c : Nat} (ht : OkR t) (hs : t.small) (hnb : t.nb + 1 = t.nc) (hu : Ups t out) (hc : c + 1 < t.nc) (HD : DownC t out (c + 1)) : DownC t out c := by
  intro u g w hl hg
  have HGR : Hid (∀ X, Below w.heap.size w X → Calls Try.prog 23 #[.agg #[u.cv t, u.bv t, u.rv t, u.nv t]] X fun e w' => e = .returned (.int .i64 (t.ng : Nat)) ∧ Below X.heap.size X w') := fun X hX => rgroups_any _ t X (hl.below hX).tb hs
  have HUP : Hid (∀ X h, Below w.heap.size w X → h < t.ng → Calls Try.prog 44 #[.agg #[u.cv t, u.bv t, u.rv t, u.nv t], .int .i64 c, .int .i64 (h : Nat), .agg (outL out).toArray] X fun e w' => ∃ q, e = .returned (.agg (stA q)) ∧ IvS q (t.up out c h) ∧ Below X.heap.size X w') := fun X h hX hh => rup_all out ht hs (c := c) (by omega) u h X (hl.below hX) hh
  obtain ⟨nx, hnx⟩ : ∃ nx, t.nx g = nx := ⟨_, rfl⟩
  obtain ⟨d, hd⟩ : ∃ d, c + 1 = d := ⟨_, rfl⟩
  have ng2 := ht.ng2; have ng4 := ht.ng4; have nbq := ht.nb4; have ncq := ht.nc4
  obtain ⟨l, hll⟩ : ∃ l : Nat, (t.ng : Int) - 1 = (l : Int) := ⟨t.ng - 1, by omega⟩
  have ell : t.last = l := by unfold Tb.last; omega
  have hnxl : nx ≤ l ∧ ((g + 1 ≤ l ∧ nx = g + 1) ∨ (l < g + 1 ∧ nx = l)) := by
    rw [← hnx, ← ell]
    unfold Tb.nx
    by_cases e : g + 1 ≤ t.last
    · exact ⟨by omega, .inl ⟨e, by omega⟩⟩
    · exact ⟨by omega, .inr ⟨by omega, by omega⟩⟩
  have hnxg : nx < t.ng := by have := hnxl.1; omega
  have HOW : Hid (∀ X, Below w.heap.size w X → Calls Try.prog 68 #[.agg #[u.cv t, u.bv t, u.rv t, u.nv t], .int .i64 d, .int .i64 nx, .agg (outL out).toArray] X fun e w' => ∃ q, e = .returned (.agg (stA q)) ∧ IvS q (t.own out (c + 1) (t.nx g)) ∧ Below X.heap.size X w') := fun X hX => by
    rw [hnx, hd]
    exact rown_any u t out d nx X (hl.below hX) ht (by omega) hnxg
  have HDW : Hid (∀ X, Below w.heap.size w X → Calls Try.prog 29 #[.agg #[u.cv t, u.bv t, u.rv t, u.nv t], .int .i64 d, .int .i64 nx, .agg (outL out).toArray] X fun e w' => ∃ q, e = .returned (.agg (stA q)) ∧ DnS t out (c + 1) (t.nx g) q ∧ Below X.heap.size X w') := fun X hX => by
    rw [hnx, ← hd]
    exact HD u nx X (hl.below hX) hnxg
  obtain ⟨n1, n2, HNC⟩ : ∃ n1 n2, Hid (t.n nx = (n1, n2)) := ⟨_, _, rfl⟩
  obtain ⟨p1, p2, HPC⟩ : ∃ p1 p2, Hid (t.r (g + 1) = (p1, p2)) := ⟨_, _, rfl⟩
  obtain ⟨rb, ro, hra, hrb, hrz⟩ := rs_fn hl.2.2.1 (by rw [ht.nr]; omega)
  obtain ⟨nb, no, hna, hnb', hnz⟩ := rs_fn hl.2.2.2 (by rw [ht.nn]; omega)
  obtain ⟨uca, ucc, uba, ubc, ura, urc, una, unc⟩ := u
  simp only at hra hna
  subst hra hna
  simp only [WV.cv, WV.bv, WV.rv, WV.nv] at HGR HUP HOW HDW ⊢
  have HRZ : Hid (∀ j, j < t.ng + 1 → ∀ X, Below w.heap.size w X → X.cell? ⟨rb, ro + j * 2, none⟩ = some (.int .i64 (t.r j).1) ∧ X.cell? ⟨rb, ro + j * 2 + 1, none⟩ = some (.int .i64 (t.r j).2)) := fun j hj X hX => ⟨kept hX hrb (hrz j (by rw [ht.nr]; exact hj)).1, kept hX hrb (hrz j (by rw [ht.nr]; exact hj)).2⟩
  have HRB : Hid (∀ j, j < t.ng + 1 → 0 ≤ (t.r j).1 ∧ (t.r j).1 ≤ (t.r j).2 ∧ (t.r j).2 ≤ 1000) := fun j hj => ht.r j (by rw [ht.nr]; exact hj)
  have HNZ : Hid (∀ X, Below w.heap.size w X → X.cell? ⟨nb, no + nx * 2, none⟩ = some (.int .i64 n1) ∧ X.cell? ⟨nb, no + nx * 2 + 1, none⟩ = some (.int .i64 n2)) := fun X hX => by
    have h := hnz nx (by rw [ht.nn]; exact hnxg)
    rw [HNC.out] at h
    exact ⟨kept hX hnb' h.1, kept hX hnb' h.2⟩
  have HNT : Hid (-1000 ≤ -n2 ∧ -n2 ≤ 1000 ∧ -1000 ≤ -n1 ∧ -n1 ≤ 1000) := by
    have h := ht.n nx (by rw [ht.nn]; exact hnxg)
    rw [HNC.out] at h
    simp only at h
    exact ⟨by omega, by omega, by omega, by omega⟩
  have HPT : Hid (0 ≤ p1 ∧ p1 ≤ p2 ∧ p2 ≤ 1000) := by
    have h := HRB.out (g + 1) (by omega)
    rw [HPC.out] at h
    exact h
  have HRC : Hid (∀ X, Below w.heap.size w X → X.cell? ⟨rb, ro + (g + 1) * 2, none⟩ = some (.int .i64 p1) ∧ X.cell? ⟨rb, ro + (g + 1) * 2 + 1, none⟩ = some (.int .i64 p2)) := fun X hX => by
    have h := HRZ.out (g + 1) (by omega) X hX
    rw [HPC.out] at h
    exact h
  have gnn : (nx : Int) < (t.nn : Int) := by rw [ht.nn]; omega
  have gnr : (g : Int) + 1 < (t.nr : Int) := by rw [ht.nr]; omega
  have hnrr : t.nr = t.ng + 1 := ht.nr
  have HNR := Lib.hid hnrr
  have HLAW : Hid (∀ s0 s1 q, Goal0 t out c g s0 → GoalS t out c g s0 s1 → (∀ i, i < 3000 → (q i = true ↔ DwnP s1 (p1, p2) i)) → DnS t out c g q) := fun s0 s1 q ⟨O, D, h1, h2, h3⟩ h4 h5 => down_law ht hnb hu hc hg h1 h2 h3 h4 (by rw [HPC.out]; exact h5)
  clear hl hrz hnz hrb hnb' ht hs hu hnb HD hnrr
  have HDD := Lib.hid hd; have HNX := Lib.hid hnx; have HLL := Lib.hid ell
  have hdc : (c : Int) + 1 = (d : Int) := by omega
  have cq0 : ¬ (c : Int) = (t.nc : Int) - 1 := by omega
  have di : (0 : Int) ≤ (d : Int) := by omega
  have dj : (d : Int) ≤ 4 := by omega
  have gi : (0 : Int) ≤ (g : Int) := by omega
  have gj : (g : Int) < (t.ng : Int) := by omega
  have ci : (0 : Int) ≤ (c : Int) := by omega
  have ni : (0 : Int) ≤ (nx : Int) := by omega
  obtain ⟨z, hz⟩ : ∃ z : Nat, (t.nc : Int) - 1 = (z : Int) := ⟨t.nc - 1, by omega⟩
  have hcz : ((c : Int) == (z : Int)) = false := by simp; omega
  clear cq0 hd hnx ell
  have HA0 : Hid (BF w (((w.alloc (.cells #[.slice uca t.nc ucc, .slice uba t.nb ubc, .slice (some ⟨rb, ro, none⟩) t.nr urc, .slice (some ⟨nb, no, none⟩) t.nn unc] 25)).alloc (.cells (outL out).toArray 46)).alloc (.cells Try.zeroCells54 54)) [(w.heap.size, #[.slice uca t.nc ucc, .slice uba t.nb ubc, .slice (some ⟨rb, ro, none⟩) t.nr urc, .slice (some ⟨nb, no, none⟩) t.nn unc], 25), (w.heap.size + 1, (outL out).toArray, 46), (w.heap.size + 1 + 1, stA fun _ => false, 54)]) := by
    have h := BF.made3 w #[.slice uca t.nc ucc, .slice uba t.nb ubc, .slice (some ⟨rb, ro, none⟩) t.nr urc, .slice (some ⟨nb, no, none⟩) t.nn unc] (outL out).toArray Try.zeroCells54 25 46 54
    rw [stA_zero] at h ⊢
    exact h
  have WD1 : Hid (IntKind.i64.wrap ((c : Int) + 1) = (d : Int)) := by rw [Hid, hdc]; exact IntWalk.i64_in _ (by omega)
  have WD2 : Hid (IntKind.i64.wrap (d : Int) = (d : Int)) := IntWalk.i64_in _ (by omega)
  have WN1 : Hid (IntKind.i64.wrap (-n1) = -n1) := IntWalk.i64_in _ (by have := HNT.out; omega)
  have WN2 : Hid (IntKind.i64.wrap (-n2) = -n2) := IntWalk.i64_in _ (by have := HNT.out; omega)
  have HNL := Lib.hid hnxl
  go_enter Try.func29, Try.ntmps29
  go_upto_region 1 with (refine wpList_box_row (o := ⟨some 7, .box 46 (.tmp 3), _, _, _, _⟩) rfl 46 (.tmp 3) rfl (outL out).toArray rfl ?_)
  have k0 := HA0.out.cell (.head _) 0; have k1 := HA0.out.cell (.head _) 1; have k2 := HA0.out.cell (.head _) 2; have k3 := HA0.out.cell (.head _) 3
  generalize (((w.alloc (.cells #[.slice uca t.nc ucc, .slice uba t.nb ubc, .slice (some ⟨rb, ro, none⟩) t.nr urc, .slice (some ⟨nb, no, none⟩) t.nn unc] 25)).alloc (.cells (outL out).toArray 46)).alloc (.cells Try.zeroCells54 54)) = w1 at *
  clear hnxl
  go_upto_region 3 with (fail)
  go_cut [9] (fun s9 wy => s9 = .int .i64 (nx : Int) ∧ BF w wy [(w.heap.size, #[.slice uca t.nc ucc, .slice uba t.nb ubc, .slice (some ⟨rb, ro, none⟩) t.nr urc, .slice (some ⟨nb, no, none⟩) t.nn unc], 25), (w.heap.size + 1, (outL out).toArray, 46), (w.heap.size + 1 + 1, stA fun _ => false, 54)])
  case first => as_aux_lemma =>
    rcases HNL.out.2 with ⟨e1, rfl⟩ | ⟨e1, rfl⟩
    · have q1 : (g : Int) + 1 ≤ (l : Int) := by omega
      clear e1
      go_wp2_with (go_at_call 23; refine (HGR.out _ HA0.out.fr).mono ?_; rintro _ w3 ⟨rfl, hb3⟩; have HA3 := Lib.hid (HA0.out.below hb3); clear hb3)
      all_goals first | (exfalso; omega) | skip
      go_meet
      exact ⟨by go_num, HA3.out⟩
    · have q1 : (nx : Int) < (g : Int) + 1 := by omega
      clear e1
      go_wp2_with (go_at_call 23; refine (HGR.out _ HA0.out.fr).mono ?_; rintro _ w3 ⟨rfl, hb3⟩; have HA3 := Lib.hid (HA0.out.below hb3); clear hb3)
      all_goals first | (exfalso; omega) | skip
      go_meet
      exact ⟨by go_num, HA3.out⟩
  rename World => w2
  obtain ⟨rfl, hbf⟩ := hcut
  have HA2 := Lib.hid hbf
  clear hbf HA0 k0 k1 k2 k3
  have HC4 : Hid (∀ X, BF w X [(w.heap.size, #[.slice uca t.nc ucc, .slice uba t.nb ubc, .slice (some ⟨rb, ro, none⟩) t.nr urc, .slice (some ⟨nb, no, none⟩) t.nn unc], 25), (w.heap.size + 1, (outL out).toArray, 46), (w.heap.size + 1 + 1, stA fun _ => false, 54)] → (X.cell? ⟨w.heap.size, 0, none⟩ = some (.slice uca t.nc ucc) ∧ X.cell? ⟨w.heap.size, 1, none⟩ = some (.slice uba t.nb ubc) ∧ X.cell? ⟨w.heap.size, 2, none⟩ = some (.slice (some ⟨rb, ro, none⟩) t.nr urc) ∧ X.cell? ⟨w.heap.size, 3, none⟩ = some (.slice (some ⟨nb, no, none⟩) t.nn unc) ∧ X.rangeAt (w.heap.size + 1) 0 (outL out) ∧ X.cell? ⟨nb, no + nx * 2, none⟩ = some (.int .i64 n1) ∧ X.cell? ⟨nb, no + nx * 2 + 1, none⟩ = some (.int .i64 n2))) := fun X h => ⟨h.cell (.head _) 0, h.cell (.head _) 1, h.cell (.head _) 2, h.cell (.head _) 3, row_range (h.bk _ _ _ (.tail _ (.head _))).2, (HNZ.out X h.fr).1, (HNZ.out X h.fr).2⟩
  have H4 : Hid (∀ O D s0, IvS O (t.own out (c + 1) (t.nx g)) → DnS t out (c + 1) (t.nx g) D → (∀ i, i < 3000 → (s0 i = true ↔ MovP (fun m => O m && D m) (-n2) (-n1) 3000 i)) → Goal0 t out c g s0) := fun O D s0 h1 h2 h3 => ⟨O, D, h1, h2, by rw [HNX.out, HNC.out]; exact h3⟩
  go_upto_region 4 with (fail)
  go_cut [10] (fun s10 wy => ∃ G s0, s10 = .pointer (some ⟨G, 0, none⟩) ∧ w.heap.size + 3 ≤ G ∧ Goal0 t out c g s0 ∧ BF w wy [(G, stA s0, 54), (w.heap.size, #[.slice uca t.nc ucc, .slice uba t.nb ubc, .slice (some ⟨rb, ro, none⟩) t.nr urc, .slice (some ⟨nb, no, none⟩) t.nn unc], 25), (w.heap.size + 1, (outL out).toArray, 46), (w.heap.size + 1 + 1, stA fun _ => false, 54)])
  case first => as_aux_lemma =>
    go_wp2_with fail
    have HAX := Lib.hid (HA2.out.below (Below.refl _ w2).drew)
    refine wp_region_Z (S := fun X => X.cell? ⟨w.heap.size, 0, none⟩ = some (.slice uca t.nc ucc) ∧ X.cell? ⟨w.heap.size, 1, none⟩ = some (.slice uba t.nb ubc) ∧ X.cell? ⟨w.heap.size, 2, none⟩ = some (.slice (some ⟨rb, ro, none⟩) t.nr urc) ∧ X.cell? ⟨w.heap.size, 3, none⟩ = some (.slice (some ⟨nb, no, none⟩) t.nn unc) ∧ X.rangeAt (w.heap.size + 1) 0 (outL out) ∧ X.cell? ⟨nb, no + nx * 2, none⟩ = some (.int .i64 n1) ∧ X.cell? ⟨nb, no + nx * 2 + 1, none⟩ = some (.int .i64 n2)) (by kernel_rfl) (HC4.out _ HAX.out) (fun hS => ?_)
    generalize w2.drew = X at *
    refine tk [0, 1] ?_
    repeat (refine tkZ (oi := ⟨_, _, _, _, _, _⟩) (v := ?_) rfl (by kernel_rfl) (by rfl) (fun _ _ _ h => h) hS ?_ ?_; rotate_left; (· rintro W' ⟨z0, z1, z2, z3, z4, z5, z6⟩; go_simp; try with_reducible rfl); try simp only [Act.put, putA, putZ, putS])
    refine tk0 ?_
    refine tZ 2 (oi := ⟨_, _, _, _, _, _⟩) (v := .int .i64 (d : Int)) rfl (by kernel_rfl) (by rfl) (fun _ _ _ h => h) hS ?_ ?_
    · rintro W' ⟨z0, z1, z2, z3, z4, z5, z6⟩; go_simp; (try first | rw [WD1.out] | rw [WD2.out] | rw [WN1.out] | rw [WN2.out] | rw [WE1.out] | rw [WE2.out])
    try simp only [Act.put, putA, putZ, putS]
    refine tZ 3 (oi := ⟨_, _, _, _, _, _⟩) (v := ?_) rfl (by kernel_rfl) (by rfl) (fun _ _ _ h => h) hS ?_ ?_
    rotate_left
    · rintro W' ⟨z0, z1, z2, z3, z4, z5, z6⟩; go_simp; try with_reducible rfl
    try simp only [Act.put, putA, putZ, putS]
    refine wpAnyZ_take (i := 4) (oi := ⟨some 34, _, _, _, _, _⟩) (v := .agg (outL out).toArray) rfl (by kernel_rfl) (by kernel_rfl) (by kernel_rfl) (fun _ _ _ h => h) (ld_off out (by rfl) (.tmp 7) rfl (w.heap.size + 1) rfl (fun _ h => h.2.2.2.2.1)) hS ?_
    try simp only [Act.put, putA, putZ, putS]
    refine tk [6, 7] ?_
    repeat (refine tkZ (oi := ⟨_, _, _, _, _, _⟩) (v := ?_) rfl (by kernel_rfl) (by rfl) (fun _ _ _ h => h) hS ?_ ?_; rotate_left; (· rintro W' ⟨z0, z1, z2, z3, z4, z5, z6⟩; go_simp; try with_reducible rfl); try simp only [Act.put, putA, putZ, putS])
    refine tk0 ?_
    refine tZ 8 (oi := ⟨_, _, _, _, _, _⟩) (v := .int .i64 (d : Int)) rfl (by kernel_rfl) (by rfl) (fun _ _ _ h => h) hS ?_ ?_
    · rintro W' ⟨z0, z1, z2, z3, z4, z5, z6⟩; go_simp; (try first | rw [WD1.out] | rw [WD2.out] | rw [WN1.out] | rw [WN2.out] | rw [WE1.out] | rw [WE2.out])
    try simp only [Act.put, putA, putZ, putS]
    refine tZ 9 (oi := ⟨_, _, _, _, _, _⟩) (v := ?_) rfl (by kernel_rfl) (by rfl) (fun _ _ _ h => h) hS ?_ ?_
    rotate_left
    · rintro W' ⟨z0, z1, z2, z3, z4, z5, z6⟩; go_simp; try with_reducible rfl
    try simp only [Act.put, putA, putZ, putS]
    refine wpAnyZ_take (i := 10) (oi := ⟨some 40, _, _, _, _, _⟩) (v := .agg (outL out).toArray) rfl (by kernel_rfl) (by kernel_rfl) (by kernel_rfl) (fun _ _ _ h => h) (ld_off out (by rfl) (.tmp 7) rfl (w.heap.size + 1) rfl (fun _ h => h.2.2.2.2.1)) hS ?_
    try simp only [Act.put, putA, putZ, putS]
    refine tk [13, 14, 15, 16, 17, 18] ?_
    repeat (refine tkZ (oi := ⟨_, _, _, _, _, _⟩) (v := ?_) rfl (by kernel_rfl) (by rfl) (fun _ _ _ h => h) hS ?_ ?_; rotate_left; (· rintro W' ⟨z0, z1, z2, z3, z4, z5, z6⟩; go_simp; try with_reducible rfl); try simp only [Act.put, putA, putZ, putS])
    refine tk0 ?_
    refine tZ 19 (oi := ⟨_, _, _, _, _, _⟩) (v := .int .i64 (-n2 : Int)) rfl (by kernel_rfl) (by rfl) (fun _ _ _ h => h) hS ?_ ?_
    · rintro W' ⟨z0, z1, z2, z3, z4, z5, z6⟩; go_simp; (try first | rw [WD1.out] | rw [WD2.out] | rw [WN1.out] | rw [WN2.out] | rw [WE1.out] | rw [WE2.out])
    try simp only [Act.put, putA, putZ, putS]
    refine tk [20, 21, 22, 23, 24, 25] ?_
    repeat (refine tkZ (oi := ⟨_, _, _, _, _, _⟩) (v := ?_) rfl (by kernel_rfl) (by rfl) (fun _ _ _ h => h) hS ?_ ?_; rotate_left; (· rintro W' ⟨z0, z1, z2, z3, z4, z5, z6⟩; go_simp; try with_reducible rfl); try simp only [Act.put, putA, putZ, putS])
    refine tk0 ?_
    refine tZ 26 (oi := ⟨_, _, _, _, _, _⟩) (v := .int .i64 (-n1 : Int)) rfl (by kernel_rfl) (by rfl) (fun _ _ _ h => h) hS ?_ ?_
    · rintro W' ⟨z0, z1, z2, z3, z4, z5, z6⟩; go_simp; (try first | rw [WD1.out] | rw [WD2.out] | rw [WN1.out] | rw [WN2.out] | rw [WE1.out] | rw [WE2.out])
    try simp only [Act.put, putA, putZ, putS]
    refine tZ 27 (oi := ⟨_, _, _, _, _, _⟩) (v := ?_) rfl (by kernel_rfl) (by rfl) (fun _ _ _ h => h) hS ?_ ?_
    rotate_left
    · rintro W' ⟨z0, z1, z2, z3, z4, z5, z6⟩; go_simp; try with_reducible rfl
    try simp only [Act.put, putA, putZ, putS]
    refine wpAnyZ_next (rs := [5, 29]) (by kernel_rfl) (by simp) ?_
    refine NextZ.cons (o := ⟨some 35, _, _, _, _, _⟩) rfl (fun K hK => ?_) ?_
    ·
     go_simp
     refine (HOW.out _ HAX.out.fr).mono ?_
     rintro _ X0 ⟨O, rfl, ho, hb0⟩
     (try go_wp2_with fail)
     have HA0 := Lib.hid (HAX.out.below hb0)
     have HO := Lib.hid ho
     clear ho
     refine hK.out _ _ (HC4.out X0 HA0.out) (fun hS => ?_)
     clear hK K
     try simp only [Act.put, putA, putZ, putS]
     clear hb0
     refine wpAnyZ_next (rs := [11, 29]) (by kernel_rfl) (by simp) ?_
     refine NextZ.cons (o := ⟨some 41, _, _, _, _, _⟩) rfl (fun K hK => ?_) ?_
     ·
      go_simp
      refine (HDW.out _ HA0.out.fr).mono ?_
      rintro _ X1 ⟨D, rfl, hd, hb1⟩
      (try go_wp2_with fail)
      have HA1 := Lib.hid (HA0.out.below hb1)
      have HD := Lib.hid hd
      clear hd
      refine hK.out _ _ (HC4.out X1 HA1.out) (fun hS => ?_)
      clear hK K
      try simp only [Act.put, putA, putZ, putS]
      clear hb1
      refine wpAnyZ_next (rs := [12, 29]) (by kernel_rfl) (by simp) ?_
      refine NextZ.cons (o := ⟨some 42, _, _, _, _, _⟩) rfl (fun K hK => ?_) ?_
      ·
       go_simp
       refine (both_any O D _).mono ?_
       rintro _ X2 ⟨rfl, hb2⟩
       (try go_wp2_with fail)
       have HA2 := Lib.hid (HA1.out.below hb2)
       refine hK.out _ _ (HC4.out X2 HA2.out) (fun hS => ?_)
       clear hK K
       try simp only [Act.put, putA, putZ, putS]
       clear hb2
       refine wpAnyZ_next (rs := [28, 29]) (by kernel_rfl) (by simp) ?_
       refine NextZ.cons (o := ⟨some 58, _, _, _, _, _⟩) rfl (fun K hK => ?_) ?_
       ·
        go_simp
        refine (moved_any (fun m => O m && D m) (-n2) (-n1) _ HNT.out.1 HNT.out.2.1 HNT.out.2.2.1 HNT.out.2.2.2).mono ?_
        rintro _ X3 ⟨s0, rfl, hq0, hb3⟩
        (try go_wp2_with fail)
        have HA3 := Lib.hid (HA2.out.below hb3)
        have HQ0 := Lib.hid hq0
        clear hq0
        refine hK.out _ _ (HC4.out X3 HA3.out) (fun hS => ?_)
        clear hK K
        try simp only [Act.put, putA, putZ, putS]
        clear hb3
        refine wpAnyZ_next (rs := [29]) (by kernel_rfl) (by simp) ?_
        refine NextZ.cons (o := ⟨some 10, _, _, _, _, _⟩) rfl (fun K hK => ?_) NextZ.nil
        go_simp
        have HA4 : Hid (BF w (X3.alloc (.cells Try.zeroCells54 54)) ((X3.heap.size, stA fun _ => false, 54) :: [(w.heap.size, #[.slice uca t.nc ucc, .slice uba t.nb ubc, .slice (some ⟨rb, ro, none⟩) t.nr urc, .slice (some ⟨nb, no, none⟩) t.nn unc], 25), (w.heap.size + 1, (outL out).toArray, 46), (w.heap.size + 1 + 1, stA fun _ => false, 54)])) := by
          have h := HA3.out.alloc (stA fun _ => false) 54
          rw [← stA_zero] at h ⊢
          exact h
        have HGG : Hid (w.heap.size + 1 + 1 < X3.heap.size) := (HA3.out.lt (.tail _ (.tail _ (.head _)))).2
        refine hK.out _ _ (HC4.out (X3.alloc (.cells Try.zeroCells54 54)) (HA4.out.sub (fun _ hp => .tail _ hp))) (fun hS => ?_)
        clear hK K
        try simp only [Act.put, putA, putZ, putS]
        generalize X3.heap.size = G at *
        generalize (X3.alloc (.cells Try.zeroCells54 54)) = X4 at *
        refine wpAnyZ_next (rs := [30]) (by kernel_rfl) (by simp) ?_
        refine NextZ.last (o := ⟨none, _, _, _, _, _⟩) rfl (by kernel_rfl) (fun K hK => ?_)
        have HRX : Hid (X4.heap[G]? = some (.cells (stA fun _ => false) 54 (0, 0))) := (HA4.out.bk _ _ _ (.head _)).2
        have HSZ := Lib.hid (stA_info s0)
        have HAS : Hid (BF w (X4.setRow G (stA s0)) [(G, stA s0, 54), (w.heap.size, #[.slice uca t.nc ucc, .slice uba t.nb ubc, .slice (some ⟨rb, ro, none⟩) t.nr urc, .slice (some ⟨nb, no, none⟩) t.nn unc], 25), (w.heap.size + 1, (outL out).toArray, 46), (w.heap.size + 1 + 1, stA fun _ => false, 54)]) := HA4.out.setrow (.head _) _ (List.forall_mem_cons.2 ⟨⟨show w.heap.size ≠ G by (have := HGG.out); omega, (.tail _ (.head _))⟩, List.forall_mem_cons.2 ⟨⟨show w.heap.size + 1 ≠ G by (have := HGG.out); omega, (.tail _ (.tail _ (.head _)))⟩, List.forall_mem_cons.2 ⟨⟨show w.heap.size + 1 + 1 ≠ G by (have := HGG.out); omega, (.tail _ (.tail _ (.tail _ (.head _))))⟩, List.forall_mem_nil _⟩⟩⟩)
        refine step_store_row (by rfl) 54 (.tmp 10) (.tmp 58) (by rfl) G (stA s0) (by rfl) (by rfl) 54 (stA fun _ => false) HRX.out HSZ.out rfl (stA_one _) ?_
        refine hK.out _ _ ?_
        clear hK K
        (try simp only [Act.put])
        refine wpAnyZ_done (by kernel_rfl) ?_ _
        go_wp2_with fail
        go_meet
        exact ⟨G, s0, rfl, by (have := HGG.out); omega, H4.out _ _ _ HO.out HD.out HQ0.out, HAS.out⟩
       refine NextZ.cons (o := ⟨some 10, _, _, _, _, _⟩) rfl (fun K hK => ?_) NextZ.nil
       go_simp
       have HA6 : Hid (BF w (X2.alloc (.cells Try.zeroCells54 54)) ((X2.heap.size, stA fun _ => false, 54) :: [(w.heap.size, #[.slice uca t.nc ucc, .slice uba t.nb ubc, .slice (some ⟨rb, ro, none⟩) t.nr urc, .slice (some ⟨nb, no, none⟩) t.nn unc], 25), (w.heap.size + 1, (outL out).toArray, 46), (w.heap.size + 1 + 1, stA fun _ => false, 54)])) := by
         have h := HA2.out.alloc (stA fun _ => false) 54
         rw [← stA_zero] at h ⊢
         exact h
       have HGG : Hid (w.heap.size + 1 + 1 < X2.heap.size) := (HA2.out.lt (.tail _ (.tail _ (.head _)))).2
       refine hK.out _ _ (HC4.out (X2.alloc (.cells Try.zeroCells54 54)) (HA6.out.sub (fun _ hp => .tail _ hp))) (fun hS => ?_)
       clear hK K
       try simp only [Act.put, putA, putZ, putS]
       generalize X2.heap.size = G at *
       generalize (X2.alloc (.cells Try.zeroCells54 54)) = X6 at *
       refine wpAnyZ_next (rs := [28]) (by kernel_rfl) (by simp) ?_
       refine NextZ.cons (o := ⟨some 58, _, _, _, _, _⟩) rfl (fun K hK => ?_) NextZ.nil
       go_simp
       refine (moved_any (fun m => O m && D m) (-n2) (-n1) _ HNT.out.1 HNT.out.2.1 HNT.out.2.2.1 HNT.out.2.2.2).mono ?_
       rintro _ X7 ⟨s0, rfl, hq0, hb7⟩
       (try go_wp2_with fail)
       have HA7 := Lib.hid (HA6.out.below hb7)
       have HQ0 := Lib.hid hq0
       clear hq0
       refine hK.out _ _ (HC4.out X7 (HA7.out.sub (fun _ hp => .tail _ hp))) (fun hS => ?_)
       clear hK K
       try simp only [Act.put, putA, putZ, putS]
       clear hb7
       refine wpAnyZ_next (rs := [30]) (by kernel_rfl) (by simp) ?_
       refine NextZ.last (o := ⟨none, _, _, _, _, _⟩) rfl (by kernel_rfl) (fun K hK => ?_)
       have HRX : Hid (X7.heap[G]? = some (.cells (stA fun _ => false) 54 (0, 0))) := (HA7.out.bk _ _ _ (.head _)).2
       have HSZ := Lib.hid (stA_info s0)
       have HAS : Hid (BF w (X7.setRow G (stA s0)) [(G, stA s0, 54), (w.heap.size, #[.slice uca t.nc ucc, .slice uba t.nb ubc, .slice (some ⟨rb, ro, none⟩) t.nr urc, .slice (some ⟨nb, no, none⟩) t.nn unc], 25), (w.heap.size + 1, (outL out).toArray, 46), (w.heap.size + 1 + 1, stA fun _ => false, 54)]) := HA7.out.setrow (.head _) _ (List.forall_mem_cons.2 ⟨⟨show w.heap.size ≠ G by (have := HGG.out); omega, (.tail _ (.head _))⟩, List.forall_mem_cons.2 ⟨⟨show w.heap.size + 1 ≠ G by (have := HGG.out); omega, (.tail _ (.tail _ (.head _)))⟩, List.forall_mem_cons.2 ⟨⟨show w.heap.size + 1 + 1 ≠ G by (have := HGG.out); omega, (.tail _ (.tail _ (.tail _ (.head _))))⟩, List.forall_mem_nil _⟩⟩⟩)
       refine step_store_row (by rfl) 54 (.tmp 10) (.tmp 58) (by rfl) G (stA s0) (by rfl) (by rfl) 54 (stA fun _ => false) HRX.out HSZ.out rfl (stA_one _) ?_
       refine hK.out _ _ ?_
       clear hK K
       (try simp only [Act.put])
       refine wpAnyZ_done (by kernel_rfl) ?_ _
       go_wp2_with fail
       go_meet
       exact ⟨G, s0, rfl, by (have := HGG.out); omega, H4.out _ _ _ HO.out HD.out HQ0.out, HAS.out⟩
      refine NextZ.cons (o := ⟨some 10, _, _, _, _, _⟩) rfl (fun K hK => ?_) NextZ.nil
      go_simp
      have HA9 : Hid (BF w (X1.alloc (.cells Try.zeroCells54 54)) ((X1.heap.size, stA fun _ => false, 54) :: [(w.heap.size, #[.slice uca t.nc ucc, .slice uba t.nb ubc, .slice (some ⟨rb, ro, none⟩) t.nr urc, .slice (some ⟨nb, no, none⟩) t.nn unc], 25), (w.heap.size + 1, (outL out).toArray, 46), (w.heap.size + 1 + 1, stA fun _ => false, 54)])) := by
        have h := HA1.out.alloc (stA fun _ => false) 54
        rw [← stA_zero] at h ⊢
        exact h
      have HGG : Hid (w.heap.size + 1 + 1 < X1.heap.size) := (HA1.out.lt (.tail _ (.tail _ (.head _)))).2
      refine hK.out _ _ (HC4.out (X1.alloc (.cells Try.zeroCells54 54)) (HA9.out.sub (fun _ hp => .tail _ hp))) (fun hS => ?_)
      clear hK K
      try simp only [Act.put, putA, putZ, putS]
      generalize X1.heap.size = G at *
      generalize (X1.alloc (.cells Try.zeroCells54 54)) = X9 at *
      refine wpAnyZ_next (rs := [12]) (by kernel_rfl) (by simp) ?_
      refine NextZ.cons (o := ⟨some 42, _, _, _, _, _⟩) rfl (fun K hK => ?_) NextZ.nil
      go_simp
      refine (both_any O D _).mono ?_
      rintro _ X10 ⟨rfl, hb10⟩
      (try go_wp2_with fail)
      have HA10 := Lib.hid (HA9.out.below hb10)
      refine hK.out _ _ (HC4.out X10 (HA10.out.sub (fun _ hp => .tail _ hp))) (fun hS => ?_)
      clear hK K
      try simp only [Act.put, putA, putZ, putS]
      clear hb10
      refine wpAnyZ_next (rs := [28]) (by kernel_rfl) (by simp) ?_
      refine NextZ.cons (o := ⟨some 58, _, _, _, _, _⟩) rfl (fun K hK => ?_) NextZ.nil
      go_simp
      refine (moved_any (fun m => O m && D m) (-n2) (-n1) _ HNT.out.1 HNT.out.2.1 HNT.out.2.2.1 HNT.out.2.2.2).mono ?_
      rintro _ X11 ⟨s0, rfl, hq0, hb11⟩
      (try go_wp2_with fail)
      have HA11 := Lib.hid (HA10.out.below hb11)
      have HQ0 := Lib.hid hq0
      clear hq0
      refine hK.out _ _ (HC4.out X11 (HA11.out.sub (fun _ hp => .tail _ hp))) (fun hS => ?_)
      clear hK K
      try simp only [Act.put, putA, putZ, putS]
      clear hb11
      refine wpAnyZ_next (rs := [30]) (by kernel_rfl) (by simp) ?_
      refine NextZ.last (o := ⟨none, _, _, _, _, _⟩) rfl (by kernel_rfl) (fun K hK => ?_)
      have HRX : Hid (X11.heap[G]? = some (.cells (stA fun _ => false) 54 (0, 0))) := (HA11.out.bk _ _ _ (.head _)).2
      have HSZ := Lib.hid (stA_info s0)
      have HAS : Hid (BF w (X11.setRow G (stA s0)) [(G, stA s0, 54), (w.heap.size, #[.slice uca t.nc ucc, .slice uba t.nb ubc, .slice (some ⟨rb, ro, none⟩) t.nr urc, .slice (some ⟨nb, no, none⟩) t.nn unc], 25), (w.heap.size + 1, (outL out).toArray, 46), (w.heap.size + 1 + 1, stA fun _ => false, 54)]) := HA11.out.setrow (.head _) _ (List.forall_mem_cons.2 ⟨⟨show w.heap.size ≠ G by (have := HGG.out); omega, (.tail _ (.head _))⟩, List.forall_mem_cons.2 ⟨⟨show w.heap.size + 1 ≠ G by (have := HGG.out); omega, (.tail _ (.tail _ (.head _)))⟩, List.forall_mem_cons.2 ⟨⟨show w.heap.size + 1 + 1 ≠ G by (have := HGG.out); omega, (.tail _ (.tail _ (.tail _ (.head _))))⟩, List.forall_mem_nil _⟩⟩⟩)
      refine step_store_row (by rfl) 54 (.tmp 10) (.tmp 58) (by rfl) G (stA s0) (by rfl) (by rfl) 54 (stA fun _ => false) HRX.out HSZ.out rfl (stA_one _) ?_
      refine hK.out _ _ ?_
      clear hK K
      (try simp only [Act.put])
      refine wpAnyZ_done (by kernel_rfl) ?_ _
      go_wp2_with fail
      go_meet
      exact ⟨G, s0, rfl, by (have := HGG.out); omega, H4.out _ _ _ HO.out HD.out HQ0.out, HAS.out⟩
     refine NextZ.cons (o := ⟨some 10, _, _, _, _, _⟩) rfl (fun K hK => ?_) NextZ.nil
     go_simp
     have HA13 : Hid (BF w (X0.alloc (.cells Try.zeroCells54 54)) ((X0.heap.size, stA fun _ => false, 54) :: [(w.heap.size, #[.slice uca t.nc ucc, .slice uba t.nb ubc, .slice (some ⟨rb, ro, none⟩) t.nr urc, .slice (some ⟨nb, no, none⟩) t.nn unc], 25), (w.heap.size + 1, (outL out).toArray, 46), (w.heap.size + 1 + 1, stA fun _ => false, 54)])) := by
       have h := HA0.out.alloc (stA fun _ => false) 54
       rw [← stA_zero] at h ⊢
       exact h
     have HGG : Hid (w.heap.size + 1 + 1 < X0.heap.size) := (HA0.out.lt (.tail _ (.tail _ (.head _)))).2
     refine hK.out _ _ (HC4.out (X0.alloc (.cells Try.zeroCells54 54)) (HA13.out.sub (fun _ hp => .tail _ hp))) (fun hS => ?_)
     clear hK K
     try simp only [Act.put, putA, putZ, putS]
     generalize X0.heap.size = G at *
     generalize (X0.alloc (.cells Try.zeroCells54 54)) = X13 at *
     refine wpAnyZ_next (rs := [11]) (by kernel_rfl) (by simp) ?_
     refine NextZ.cons (o := ⟨some 41, _, _, _, _, _⟩) rfl (fun K hK => ?_) NextZ.nil
     go_simp
     refine (HDW.out _ HA13.out.fr).mono ?_
     rintro _ X14 ⟨D, rfl, hd, hb14⟩
     (try go_wp2_with fail)
     have HA14 := Lib.hid (HA13.out.below hb14)
     have HD := Lib.hid hd
     clear hd
     refine hK.out _ _ (HC4.out X14 (HA14.out.sub (fun _ hp => .tail _ hp))) (fun hS => ?_)
     clear hK K
     try simp only [Act.put, putA, putZ, putS]
     clear hb14
     refine wpAnyZ_next (rs := [12]) (by kernel_rfl) (by simp) ?_
     refine NextZ.cons (o := ⟨some 42, _, _, _, _, _⟩) rfl (fun K hK => ?_) NextZ.nil
     go_simp
     refine (both_any O D _).mono ?_
     rintro _ X15 ⟨rfl, hb15⟩
     (try go_wp2_with fail)
     have HA15 := Lib.hid (HA14.out.below hb15)
     refine hK.out _ _ (HC4.out X15 (HA15.out.sub (fun _ hp => .tail _ hp))) (fun hS => ?_)
     clear hK K
     try simp only [Act.put, putA, putZ, putS]
     clear hb15
     refine wpAnyZ_next (rs := [28]) (by kernel_rfl) (by simp) ?_
     refine NextZ.cons (o := ⟨some 58, _, _, _, _, _⟩) rfl (fun K hK => ?_) NextZ.nil
     go_simp
     refine (moved_any (fun m => O m && D m) (-n2) (-n1) _ HNT.out.1 HNT.out.2.1 HNT.out.2.2.1 HNT.out.2.2.2).mono ?_
     rintro _ X16 ⟨s0, rfl, hq0, hb16⟩
     (try go_wp2_with fail)
     have HA16 := Lib.hid (HA15.out.below hb16)
     have HQ0 := Lib.hid hq0
     clear hq0
     refine hK.out _ _ (HC4.out X16 (HA16.out.sub (fun _ hp => .tail _ hp))) (fun hS => ?_)
     clear hK K
     try simp only [Act.put, putA, putZ, putS]
     clear hb16
     refine wpAnyZ_next (rs := [30]) (by kernel_rfl) (by simp) ?_
     refine NextZ.last (o := ⟨none, _, _, _, _, _⟩) rfl (by kernel_rfl) (fun K hK => ?_)
     have HRX : Hid (X16.heap[G]? = some (.cells (stA fun _ => false) 54 (0, 0))) := (HA16.out.bk _ _ _ (.head _)).2
     have HSZ := Lib.hid (stA_info s0)
     have HAS : Hid (BF w (X16.setRow G (stA s0)) [(G, stA s0, 54), (w.heap.size, #[.slice uca t.nc ucc, .slice uba t.nb ubc, .slice (some ⟨rb, ro, none⟩) t.nr urc, .slice (some ⟨nb, no, none⟩) t.nn unc], 25), (w.heap.size + 1, (outL out).toArray, 46), (w.heap.size + 1 + 1, stA fun _ => false, 54)]) := HA16.out.setrow (.head _) _ (List.forall_mem_cons.2 ⟨⟨show w.heap.size ≠ G by (have := HGG.out); omega, (.tail _ (.head _))⟩, List.forall_mem_cons.2 ⟨⟨show w.heap.size + 1 ≠ G by (have := HGG.out); omega, (.tail _ (.tail _ (.head _)))⟩, List.forall_mem_cons.2 ⟨⟨show w.heap.size + 1 + 1 ≠ G by (have := HGG.out); omega, (.tail _ (.tail _ (.tail _ (.head _))))⟩, List.forall_mem_nil _⟩⟩⟩)
     refine step_store_row (by rfl) 54 (.tmp 10) (.tmp 58) (by rfl) G (stA s0) (by rfl) (by rfl) 54 (stA fun _ => false) HRX.out HSZ.out rfl (stA_one _) ?_
     refine hK.out _ _ ?_
     clear hK K
     (try simp only [Act.put])
     refine wpAnyZ_done (by kernel_rfl) ?_ _
     go_wp2_with fail
     go_meet
     exact ⟨G, s0, rfl, by (have := HGG.out); omega, H4.out _ _ _ HO.out HD.out HQ0.out, HAS.out⟩
    refine NextZ.cons (o := ⟨some 10, _, _, _, _, _⟩) rfl (fun K hK => ?_) NextZ.nil
    go_simp
    have HA18 : Hid (BF w (X.alloc (.cells Try.zeroCells54 54)) ((X.heap.size, stA fun _ => false, 54) :: [(w.heap.size, #[.slice uca t.nc ucc, .slice uba t.nb ubc, .slice (some ⟨rb, ro, none⟩) t.nr urc, .slice (some ⟨nb, no, none⟩) t.nn unc], 25), (w.heap.size + 1, (outL out).toArray, 46), (w.heap.size + 1 + 1, stA fun _ => false, 54)])) := by
      have h := HAX.out.alloc (stA fun _ => false) 54
      rw [← stA_zero] at h ⊢
      exact h
    have HGG : Hid (w.heap.size + 1 + 1 < X.heap.size) := (HAX.out.lt (.tail _ (.tail _ (.head _)))).2
    refine hK.out _ _ (HC4.out (X.alloc (.cells Try.zeroCells54 54)) (HA18.out.sub (fun _ hp => .tail _ hp))) (fun hS => ?_)
    clear hK K
    try simp only [Act.put, putA, putZ, putS]
    generalize X.heap.size = G at *
    generalize (X.alloc (.cells Try.zeroCells54 54)) = X18 at *
    refine wpAnyZ_next (rs := [5]) (by kernel_rfl) (by simp) ?_
    refine NextZ.cons (o := ⟨some 35, _, _, _, _, _⟩) rfl (fun K hK => ?_) NextZ.nil
    go_simp
    refine (HOW.out _ HA18.out.fr).mono ?_
    rintro _ X19 ⟨O, rfl, ho, hb19⟩
    (try go_wp2_with fail)
    have HA19 := Lib.hid (HA18.out.below hb19)
    have HO := Lib.hid ho
    clear ho
    refine hK.out _ _ (HC4.out X19 (HA19.out.sub (fun _ hp => .tail _ hp))) (fun hS => ?_)
    clear hK K
    try simp only [Act.put, putA, putZ, putS]
    clear hb19
    refine wpAnyZ_next (rs := [11]) (by kernel_rfl) (by simp) ?_
    refine NextZ.cons (o := ⟨some 41, _, _, _, _, _⟩) rfl (fun K hK => ?_) NextZ.nil
    go_simp
    refine (HDW.out _ HA19.out.fr).mono ?_
    rintro _ X20 ⟨D, rfl, hd, hb20⟩
    (try go_wp2_with fail)
    have HA20 := Lib.hid (HA19.out.below hb20)
    have HD := Lib.hid hd
    clear hd
    refine hK.out _ _ (HC4.out X20 (HA20.out.sub (fun _ hp => .tail _ hp))) (fun hS => ?_)
    clear hK K
    try simp only [Act.put, putA, putZ, putS]
    clear hb20
    refine wpAnyZ_next (rs := [12]) (by kernel_rfl) (by simp) ?_
    refine NextZ.cons (o := ⟨some 42, _, _, _, _, _⟩) rfl (fun K hK => ?_) NextZ.nil
    go_simp
    refine (both_any O D _).mono ?_
    rintro _ X21 ⟨rfl, hb21⟩
    (try go_wp2_with fail)
    have HA21 := Lib.hid (HA20.out.below hb21)
    refine hK.out _ _ (HC4.out X21 (HA21.out.sub (fun _ hp => .tail _ hp))) (fun hS => ?_)
    clear hK K
    try simp only [Act.put, putA, putZ, putS]
    clear hb21
    refine wpAnyZ_next (rs := [28]) (by kernel_rfl) (by simp) ?_
    refine NextZ.cons (o := ⟨some 58, _, _, _, _, _⟩) rfl (fun K hK => ?_) NextZ.nil
    go_simp
    refine (moved_any (fun m => O m && D m) (-n2) (-n1) _ HNT.out.1 HNT.out.2.1 HNT.out.2.2.1 HNT.out.2.2.2).mono ?_
    rintro _ X22 ⟨s0, rfl, hq0, hb22⟩
    (try go_wp2_with fail)
    have HA22 := Lib.hid (HA21.out.below hb22)
    have HQ0 := Lib.hid hq0
    clear hq0
    refine hK.out _ _ (HC4.out X22 (HA22.out.sub (fun _ hp => .tail _ hp))) (fun hS => ?_)
    clear hK K
    try simp only [Act.put, putA, putZ, putS]
    clear hb22
    refine wpAnyZ_next (rs := [30]) (by kernel_rfl) (by simp) ?_
    refine NextZ.last (o := ⟨none, _, _, _, _, _⟩) rfl (by kernel_rfl) (fun K hK => ?_)
    have HRX : Hid (X22.heap[G]? = some (.cells (stA fun _ => false) 54 (0, 0))) := (HA22.out.bk _ _ _ (.head _)).2
    have HSZ := Lib.hid (stA_info s0)
    have HAS : Hid (BF w (X22.setRow G (stA s0)) [(G, stA s0, 54), (w.heap.size, #[.slice uca t.nc ucc, .slice uba t.nb ubc, .slice (some ⟨rb, ro, none⟩) t.nr urc, .slice (some ⟨nb, no, none⟩) t.nn unc], 25), (w.heap.size + 1, (outL out).toArray, 46), (w.heap.size + 1 + 1, stA fun _ => false, 54)]) := HA22.out.setrow (.head _) _ (List.forall_mem_cons.2 ⟨⟨show w.heap.size ≠ G by (have := HGG.out); omega, (.tail _ (.head _))⟩, List.forall_mem_cons.2 ⟨⟨show w.heap.size + 1 ≠ G by (have := HGG.out); omega, (.tail _ (.tail _ (.head _)))⟩, List.forall_mem_cons.2 ⟨⟨show w.heap.size + 1 + 1 ≠ G by (have := HGG.out); omega, (.tail _ (.tail _ (.tail _ (.head _))))⟩, List.forall_mem_nil _⟩⟩⟩)
    refine step_store_row (by rfl) 54 (.tmp 10) (.tmp 58) (by rfl) G (stA s0) (by rfl) (by rfl) 54 (stA fun _ => false) HRX.out HSZ.out rfl (stA_one _) ?_
    refine hK.out _ _ ?_
    clear hK K
    (try simp only [Act.put])
    refine wpAnyZ_done (by kernel_rfl) ?_ _
    go_wp2_with fail
    go_meet
    exact ⟨G, s0, rfl, by (have := HGG.out); omega, H4.out _ _ _ HO.out HD.out HQ0.out, HAS.out⟩
  rename World => w4
  obtain ⟨G, s0, rfl, hG3, hg0, hbf⟩ := hcut
  have HG0 := Lib.hid hg0; have HA4 := Lib.hid hbf
  clear hg0 hbf HA2 H4 HC4 HOW HDW
  have c0 := HA4.out.cell (.tail _ (.head _)) 0; have c1 := HA4.out.cell (.tail _ (.head _)) 1; have c2 := HA4.out.cell (.tail _ (.head _)) 2; have c3 := HA4.out.cell (.tail _ (.head _)) 3
  go_upto_if 63 with (go_at_call 23; refine (HGR.out _ HA4.out.fr).mono ?_; rintro _ w5 ⟨rfl, hb5⟩; have HA5 := Lib.hid (HA4.out.below hb5); clear hb5)
  clear c0 c1 c2 c3 HA4 HGR
  go_cut [] (fun wy => ∃ s1, GoalS t out c g s0 s1 ∧ BF w wy [(G, stA s1, 54), (w.heap.size, #[.slice uca t.nc ucc, .slice uba t.nb ubc, .slice (some ⟨rb, ro, none⟩) t.nr urc, .slice (some ⟨nb, no, none⟩) t.nn unc], 25), (w.heap.size + 1, (outL out).toArray, 46), (w.heap.size + 1 + 1, stA fun _ => false, 54)])
  case first => as_aux_lemma =>
    by_cases hgl : nx = l
    · have hq : ((nx : Int) == (l : Int)) = true := by simp; omega
      by_cases hgn : g = l
      · have hq2 : ((g : Int) == (nx : Int)) = true := by simp; omega
        obtain ⟨h, hh⟩ : ∃ h : Nat, (g : Int) - 1 = (h : Int) := ⟨g - 1, by omega⟩
        have HOT : Hid ((if g = t.last then g - 1 else g + 1) = h) := by rw [Hid, HLL.out, if_pos hgn]; omega
        obtain ⟨k, hk⟩ : ∃ k : Nat, (h : Int) + 1 = (k : Int) := ⟨h + 1, by omega⟩
        have WE1 : Hid (IntKind.i64.wrap ((h : Int) + 1) = (k : Int)) := by rw [Hid, hk]; exact IntWalk.i64_in _ (by omega)
        have WE2 : Hid (IntKind.i64.wrap (k : Int) = (k : Int)) := IntWalk.i64_in _ (by omega)
        have ekh : k = h + 1 := by omega
        have hhg : h < t.ng := by omega
        have HUA : Hid (∀ X, Below w.heap.size w X → Calls Try.prog 44 #[.agg #[.slice uca t.nc ucc, .slice uba t.nb ubc, .slice (some ⟨rb, ro, none⟩) t.nr urc, .slice (some ⟨nb, no, none⟩) t.nn unc], .int .i64 c, .int .i64 h, .agg (outL out).toArray] X fun e w' => ∃ q, e = .returned (.agg (stA q)) ∧ IvS q (t.up out c h) ∧ Below X.heap.size X w') := fun X hX => HUP.out X h hX hhg
        obtain ⟨o1, o2, HPR⟩ : ∃ o1 o2, Hid (t.r k = (o1, o2)) := ⟨_, _, rfl⟩
        have HRT : Hid (0 ≤ o1 ∧ o1 ≤ o2 ∧ o2 ≤ 1000) := by
          have h := HRB.out k (by omega)
          rw [HPR.out] at h
          exact h
        have H9 : Hid (∀ U2 l2 s2, IvS U2 (t.up out c h) → (∀ i, i < 3000 → (l2 i = true ↔ LivP U2 (o1, o2) 3000 i)) → (∀ i, i < 3000 → (s2 i = true ↔ SumP s0 l2 (-1) 3000 i)) → GoalS t out c g s0 s2) := fun U2 l2 s2 a1 a2 a3 => ⟨fun _ => ⟨U2, l2, by rw [HOT.out]; exact a1, by rw [HOT.out, ← ekh, HPR.out]; exact a2, a3⟩, fun e => absurd (HNX.out.trans (hgl.trans HLL.out.symm)) e⟩
        have rnr : (k : Int) < (t.nr : Int) := by have := HNR.out; omega
        have hi0 : (0 : Int) ≤ (h : Int) := by omega
        have ki : (0 : Int) ≤ (k : Int) := by omega
        have HC9 : Hid (∀ X, BF w X [(G, stA s0, 54), (w.heap.size, #[.slice uca t.nc ucc, .slice uba t.nb ubc, .slice (some ⟨rb, ro, none⟩) t.nr urc, .slice (some ⟨nb, no, none⟩) t.nn unc], 25), (w.heap.size + 1, (outL out).toArray, 46), (w.heap.size + 1 + 1, stA fun _ => false, 54)] → (X.cell? ⟨w.heap.size, 0, none⟩ = some (.slice uca t.nc ucc) ∧ X.cell? ⟨w.heap.size, 1, none⟩ = some (.slice uba t.nb ubc) ∧ X.cell? ⟨w.heap.size, 2, none⟩ = some (.slice (some ⟨rb, ro, none⟩) t.nr urc) ∧ X.cell? ⟨w.heap.size, 3, none⟩ = some (.slice (some ⟨nb, no, none⟩) t.nn unc) ∧ X.rangeAt (w.heap.size + 1) 0 (outL out) ∧ X.cell? ⟨rb, ro + k * 2, none⟩ = some (.int .i64 o1) ∧ X.cell? ⟨rb, ro + k * 2 + 1, none⟩ = some (.int .i64 o2) ∧ X.rangeAt G 0 (stL s0))) := fun X h => ⟨h.cell (.tail _ (.head _)) 0, h.cell (.tail _ (.head _)) 1, h.cell (.tail _ (.head _)) 2, h.cell (.tail _ (.head _)) 3, row_range (h.bk _ _ _ (.tail _ (.tail _ (.head _)))).2, by
          have e := (HRZ.out k (by omega) X h.fr).1
          rw [HPR.out] at e
          exact e, by
          have e := (HRZ.out k (by omega) X h.fr).2
          rw [HPR.out] at e
          exact e, row_range (h.bk _ _ _ (.head _)).2⟩
        clear hgl hgn ekh
        go_wp2_with fail
        have HAX := Lib.hid (HA5.out.below (Below.refl _ w5).drew)
        refine wp_region_Z (S := fun X => X.cell? ⟨w.heap.size, 0, none⟩ = some (.slice uca t.nc ucc) ∧ X.cell? ⟨w.heap.size, 1, none⟩ = some (.slice uba t.nb ubc) ∧ X.cell? ⟨w.heap.size, 2, none⟩ = some (.slice (some ⟨rb, ro, none⟩) t.nr urc) ∧ X.cell? ⟨w.heap.size, 3, none⟩ = some (.slice (some ⟨nb, no, none⟩) t.nn unc) ∧ X.rangeAt (w.heap.size + 1) 0 (outL out) ∧ X.cell? ⟨rb, ro + k * 2, none⟩ = some (.int .i64 o1) ∧ X.cell? ⟨rb, ro + k * 2 + 1, none⟩ = some (.int .i64 o2) ∧ X.rangeAt G 0 (stL s0)) (by kernel_rfl) (HC9.out _ HAX.out) (fun hS => ?_)
        generalize w5.drew = X at *
        refine wpAnyZ_take (i := 0) (oi := ⟨some 71, _, _, _, _, _⟩) (v := .agg (stA s0)) rfl (by kernel_rfl) (by kernel_rfl) (by kernel_rfl) (fun _ _ _ h => h) (ld_set s0 (by rfl) (.tmp 10) rfl G rfl (fun _ h => h.2.2.2.2.2.2.2)) hS ?_
        try simp only [Act.put, putA, putZ, putS]
        refine tk [1, 2] ?_
        repeat (refine tkZ (oi := ⟨_, _, _, _, _, _⟩) (v := ?_) rfl (by kernel_rfl) (by rfl) (fun _ _ _ h => h) hS ?_ ?_; rotate_left; (· rintro W' ⟨z0, z1, z2, z3, z4, z5, z6, z7⟩; go_simp; try with_reducible rfl); try simp only [Act.put, putA, putZ, putS])
        refine tk0 ?_
        refine tZ 3 (oi := ⟨_, _, _, _, _, _⟩) (v := .int .i64 (h : Int)) rfl (by kernel_rfl) (by rfl) (fun _ _ _ h => h) hS ?_ ?_
        · rintro W' ⟨z0, z1, z2, z3, z4, z5, z6, z7⟩; go_simp; (try first | rw [WD1.out] | rw [WD2.out] | rw [WN1.out] | rw [WN2.out] | rw [WE1.out] | rw [WE2.out])
        try simp only [Act.put, putA, putZ, putS]
        refine wpAnyZ_take (i := 4) (oi := ⟨some 75, _, _, _, _, _⟩) (v := .agg (outL out).toArray) rfl (by kernel_rfl) (by kernel_rfl) (by kernel_rfl) (fun _ _ _ h => h) (ld_off out (by rfl) (.tmp 7) rfl (w.heap.size + 1) rfl (fun _ h => h.2.2.2.2.1)) hS ?_
        try simp only [Act.put, putA, putZ, putS]
        refine tk [6, 7] ?_
        repeat (refine tkZ (oi := ⟨_, _, _, _, _, _⟩) (v := ?_) rfl (by kernel_rfl) (by rfl) (fun _ _ _ h => h) hS ?_ ?_; rotate_left; (· rintro W' ⟨z0, z1, z2, z3, z4, z5, z6, z7⟩; go_simp; try with_reducible rfl); try simp only [Act.put, putA, putZ, putS])
        refine tk0 ?_
        refine tZ 8 (oi := ⟨_, _, _, _, _, _⟩) (v := .int .i64 (h : Int)) rfl (by kernel_rfl) (by rfl) (fun _ _ _ h => h) hS ?_ ?_
        · rintro W' ⟨z0, z1, z2, z3, z4, z5, z6, z7⟩; go_simp; (try first | rw [WD1.out] | rw [WD2.out] | rw [WN1.out] | rw [WN2.out] | rw [WE1.out] | rw [WE2.out])
        try simp only [Act.put, putA, putZ, putS]
        refine tZ 9 (oi := ⟨_, _, _, _, _, _⟩) (v := .int .i64 (k : Int)) rfl (by kernel_rfl) (by rfl) (fun _ _ _ h => h) hS ?_ ?_
        · rintro W' ⟨z0, z1, z2, z3, z4, z5, z6, z7⟩; go_simp; (try first | rw [WD1.out] | rw [WD2.out] | rw [WN1.out] | rw [WN2.out] | rw [WE1.out] | rw [WE2.out])
        try simp only [Act.put, putA, putZ, putS]
        refine tk [10, 11] ?_
        repeat (refine tkZ (oi := ⟨_, _, _, _, _, _⟩) (v := ?_) rfl (by kernel_rfl) (by rfl) (fun _ _ _ h => h) hS ?_ ?_; rotate_left; (· rintro W' ⟨z0, z1, z2, z3, z4, z5, z6, z7⟩; go_simp; try with_reducible rfl); try simp only [Act.put, putA, putZ, putS])
        refine tk0 ?_
        refine wpAnyZ_next (rs := [5]) (by kernel_rfl) (by simp) ?_
        refine NextZ.cons (o := ⟨some 76, _, _, _, _, _⟩) rfl (fun K hK => ?_) NextZ.nil
        go_simp
        refine (HUA.out _ HAX.out.fr).mono ?_
        rintro _ X0 ⟨U2, rfl, hu2, hb0⟩
        (try go_wp2_with fail)
        have HA0 := Lib.hid (HAX.out.below hb0)
        have HU2 := Lib.hid hu2
        clear hu2
        refine hK.out _ _ (HC9.out X0 HA0.out) (fun hS => ?_)
        clear hK K
        try simp only [Act.put, putA, putZ, putS]
        clear hb0
        refine wpAnyZ_next (rs := [12]) (by kernel_rfl) (by simp) ?_
        refine NextZ.cons (o := ⟨some 83, _, _, _, _, _⟩) rfl (fun K hK => ?_) NextZ.nil
        go_simp
        refine (rliving_any U2 o1 o2 _ HRT.out.1 HRT.out.2.1 HRT.out.2.2).mono ?_
        rintro _ X1 ⟨l2, rfl, hq1, hb1⟩
        (try go_wp2_with fail)
        have HA1 := Lib.hid (HA0.out.below hb1)
        have HQ1 := Lib.hid hq1
        clear hq1
        refine hK.out _ _ (HC9.out X1 HA1.out) (fun hS => ?_)
        clear hK K
        try simp only [Act.put, putA, putZ, putS]
        clear hb1
        refine wpAnyZ_next (rs := [13]) (by kernel_rfl) (by simp) ?_
        refine NextZ.cons (o := ⟨some 84, _, _, _, _, _⟩) rfl (fun K hK => ?_) NextZ.nil
        go_simp
        refine (sum_sub s0 l2 _).mono ?_
        rintro _ X2 ⟨s2, rfl, hq2, hb2⟩
        (try go_wp2_with fail)
        have HA2 := Lib.hid (HA1.out.below hb2)
        have HQ2 := Lib.hid hq2
        clear hq2
        refine hK.out _ _ (HC9.out X2 HA2.out) (fun hS => ?_)
        clear hK K
        try simp only [Act.put, putA, putZ, putS]
        clear hb2
        refine wpAnyZ_next (rs := [14]) (by kernel_rfl) (by simp) ?_
        refine NextZ.last (o := ⟨none, _, _, _, _, _⟩) rfl (by kernel_rfl) (fun K hK => ?_)
        have HRX : Hid (X2.heap[G]? = some (.cells (stA s0) 54 (0, 0))) := (HA2.out.bk _ _ _ (.head _)).2
        have HSZ := Lib.hid (stA_info s2)
        have HAS : Hid (BF w (X2.setRow G (stA s2)) [(G, stA s2, 54), (w.heap.size, #[.slice uca t.nc ucc, .slice uba t.nb ubc, .slice (some ⟨rb, ro, none⟩) t.nr urc, .slice (some ⟨nb, no, none⟩) t.nn unc], 25), (w.heap.size + 1, (outL out).toArray, 46), (w.heap.size + 1 + 1, stA fun _ => false, 54)]) := HA2.out.setrow (.head _) _ (List.forall_mem_cons.2 ⟨⟨show w.heap.size ≠ G by (have := hG3); omega, (.tail _ (.head _))⟩, List.forall_mem_cons.2 ⟨⟨show w.heap.size + 1 ≠ G by (have := hG3); omega, (.tail _ (.tail _ (.head _)))⟩, List.forall_mem_cons.2 ⟨⟨show w.heap.size + 1 + 1 ≠ G by (have := hG3); omega, (.tail _ (.tail _ (.tail _ (.head _))))⟩, List.forall_mem_nil _⟩⟩⟩)
        refine step_store_row (by rfl) 54 (.tmp 10) (.tmp 84) (by rfl) G (stA s2) (by rfl) (by rfl) 54 (stA s0) HRX.out HSZ.out rfl (stA_one _) ?_
        refine hK.out _ _ ?_
        clear hK K
        (try simp only [Act.put])
        refine wpAnyZ_done (by kernel_rfl) ?_ _
        go_wp2_with fail
        go_meet
        exact ⟨s2, H9.out _ _ _ HU2.out HQ1.out HQ2.out, HAS.out⟩
      · have hq2 : ((g : Int) == (nx : Int)) = false := by simp; omega
        obtain ⟨h, hh⟩ : ∃ h : Nat, (g : Int) + 1 = (h : Int) := ⟨g + 1, by omega⟩
        have HOT : Hid ((if g = t.last then g - 1 else g + 1) = h) := by rw [Hid, HLL.out, if_neg hgn]; omega
        obtain ⟨k, hk⟩ : ∃ k : Nat, (h : Int) + 1 = (k : Int) := ⟨h + 1, by omega⟩
        have WE1 : Hid (IntKind.i64.wrap ((h : Int) + 1) = (k : Int)) := by rw [Hid, hk]; exact IntWalk.i64_in _ (by omega)
        have WE2 : Hid (IntKind.i64.wrap (k : Int) = (k : Int)) := IntWalk.i64_in _ (by omega)
        have ekh : k = h + 1 := by omega
        have hhg : h < t.ng := by omega
        have HUA : Hid (∀ X, Below w.heap.size w X → Calls Try.prog 44 #[.agg #[.slice uca t.nc ucc, .slice uba t.nb ubc, .slice (some ⟨rb, ro, none⟩) t.nr urc, .slice (some ⟨nb, no, none⟩) t.nn unc], .int .i64 c, .int .i64 h, .agg (outL out).toArray] X fun e w' => ∃ q, e = .returned (.agg (stA q)) ∧ IvS q (t.up out c h) ∧ Below X.heap.size X w') := fun X hX => HUP.out X h hX hhg
        obtain ⟨o1, o2, HPR⟩ : ∃ o1 o2, Hid (t.r k = (o1, o2)) := ⟨_, _, rfl⟩
        have HRT : Hid (0 ≤ o1 ∧ o1 ≤ o2 ∧ o2 ≤ 1000) := by
          have h := HRB.out k (by omega)
          rw [HPR.out] at h
          exact h
        have H9 : Hid (∀ U2 l2 s2, IvS U2 (t.up out c h) → (∀ i, i < 3000 → (l2 i = true ↔ LivP U2 (o1, o2) 3000 i)) → (∀ i, i < 3000 → (s2 i = true ↔ SumP s0 l2 (-1) 3000 i)) → GoalS t out c g s0 s2) := fun U2 l2 s2 a1 a2 a3 => ⟨fun _ => ⟨U2, l2, by rw [HOT.out]; exact a1, by rw [HOT.out, ← ekh, HPR.out]; exact a2, a3⟩, fun e => absurd (HNX.out.trans (hgl.trans HLL.out.symm)) e⟩
        have rnr : (k : Int) < (t.nr : Int) := by have := HNR.out; omega
        have hi0 : (0 : Int) ≤ (h : Int) := by omega
        have ki : (0 : Int) ≤ (k : Int) := by omega
        have HC9 : Hid (∀ X, BF w X [(G, stA s0, 54), (w.heap.size, #[.slice uca t.nc ucc, .slice uba t.nb ubc, .slice (some ⟨rb, ro, none⟩) t.nr urc, .slice (some ⟨nb, no, none⟩) t.nn unc], 25), (w.heap.size + 1, (outL out).toArray, 46), (w.heap.size + 1 + 1, stA fun _ => false, 54)] → (X.cell? ⟨w.heap.size, 0, none⟩ = some (.slice uca t.nc ucc) ∧ X.cell? ⟨w.heap.size, 1, none⟩ = some (.slice uba t.nb ubc) ∧ X.cell? ⟨w.heap.size, 2, none⟩ = some (.slice (some ⟨rb, ro, none⟩) t.nr urc) ∧ X.cell? ⟨w.heap.size, 3, none⟩ = some (.slice (some ⟨nb, no, none⟩) t.nn unc) ∧ X.rangeAt (w.heap.size + 1) 0 (outL out) ∧ X.cell? ⟨rb, ro + k * 2, none⟩ = some (.int .i64 o1) ∧ X.cell? ⟨rb, ro + k * 2 + 1, none⟩ = some (.int .i64 o2) ∧ X.rangeAt G 0 (stL s0))) := fun X h => ⟨h.cell (.tail _ (.head _)) 0, h.cell (.tail _ (.head _)) 1, h.cell (.tail _ (.head _)) 2, h.cell (.tail _ (.head _)) 3, row_range (h.bk _ _ _ (.tail _ (.tail _ (.head _)))).2, by
          have e := (HRZ.out k (by omega) X h.fr).1
          rw [HPR.out] at e
          exact e, by
          have e := (HRZ.out k (by omega) X h.fr).2
          rw [HPR.out] at e
          exact e, row_range (h.bk _ _ _ (.head _)).2⟩
        clear hgl hgn ekh
        go_wp2_with fail
        have HAX := Lib.hid (HA5.out.below (Below.refl _ w5).drew)
        refine wp_region_Z (S := fun X => X.cell? ⟨w.heap.size, 0, none⟩ = some (.slice uca t.nc ucc) ∧ X.cell? ⟨w.heap.size, 1, none⟩ = some (.slice uba t.nb ubc) ∧ X.cell? ⟨w.heap.size, 2, none⟩ = some (.slice (some ⟨rb, ro, none⟩) t.nr urc) ∧ X.cell? ⟨w.heap.size, 3, none⟩ = some (.slice (some ⟨nb, no, none⟩) t.nn unc) ∧ X.rangeAt (w.heap.size + 1) 0 (outL out) ∧ X.cell? ⟨rb, ro + k * 2, none⟩ = some (.int .i64 o1) ∧ X.cell? ⟨rb, ro + k * 2 + 1, none⟩ = some (.int .i64 o2) ∧ X.rangeAt G 0 (stL s0)) (by kernel_rfl) (HC9.out _ HAX.out) (fun hS => ?_)
        generalize w5.drew = X at *
        refine wpAnyZ_take (i := 0) (oi := ⟨some 71, _, _, _, _, _⟩) (v := .agg (stA s0)) rfl (by kernel_rfl) (by kernel_rfl) (by kernel_rfl) (fun _ _ _ h => h) (ld_set s0 (by rfl) (.tmp 10) rfl G rfl (fun _ h => h.2.2.2.2.2.2.2)) hS ?_
        try simp only [Act.put, putA, putZ, putS]
        refine tk [1, 2] ?_
        repeat (refine tkZ (oi := ⟨_, _, _, _, _, _⟩) (v := ?_) rfl (by kernel_rfl) (by rfl) (fun _ _ _ h => h) hS ?_ ?_; rotate_left; (· rintro W' ⟨z0, z1, z2, z3, z4, z5, z6, z7⟩; go_simp; try with_reducible rfl); try simp only [Act.put, putA, putZ, putS])
        refine tk0 ?_
        refine tZ 3 (oi := ⟨_, _, _, _, _, _⟩) (v := .int .i64 (h : Int)) rfl (by kernel_rfl) (by rfl) (fun _ _ _ h => h) hS ?_ ?_
        · rintro W' ⟨z0, z1, z2, z3, z4, z5, z6, z7⟩; go_simp; (try first | rw [WD1.out] | rw [WD2.out] | rw [WN1.out] | rw [WN2.out] | rw [WE1.out] | rw [WE2.out])
        try simp only [Act.put, putA, putZ, putS]
        refine wpAnyZ_take (i := 4) (oi := ⟨some 75, _, _, _, _, _⟩) (v := .agg (outL out).toArray) rfl (by kernel_rfl) (by kernel_rfl) (by kernel_rfl) (fun _ _ _ h => h) (ld_off out (by rfl) (.tmp 7) rfl (w.heap.size + 1) rfl (fun _ h => h.2.2.2.2.1)) hS ?_
        try simp only [Act.put, putA, putZ, putS]
        refine tk [6, 7] ?_
        repeat (refine tkZ (oi := ⟨_, _, _, _, _, _⟩) (v := ?_) rfl (by kernel_rfl) (by rfl) (fun _ _ _ h => h) hS ?_ ?_; rotate_left; (· rintro W' ⟨z0, z1, z2, z3, z4, z5, z6, z7⟩; go_simp; try with_reducible rfl); try simp only [Act.put, putA, putZ, putS])
        refine tk0 ?_
        refine tZ 8 (oi := ⟨_, _, _, _, _, _⟩) (v := .int .i64 (h : Int)) rfl (by kernel_rfl) (by rfl) (fun _ _ _ h => h) hS ?_ ?_
        · rintro W' ⟨z0, z1, z2, z3, z4, z5, z6, z7⟩; go_simp; (try first | rw [WD1.out] | rw [WD2.out] | rw [WN1.out] | rw [WN2.out] | rw [WE1.out] | rw [WE2.out])
        try simp only [Act.put, putA, putZ, putS]
        refine tZ 9 (oi := ⟨_, _, _, _, _, _⟩) (v := .int .i64 (k : Int)) rfl (by kernel_rfl) (by rfl) (fun _ _ _ h => h) hS ?_ ?_
        · rintro W' ⟨z0, z1, z2, z3, z4, z5, z6, z7⟩; go_simp; (try first | rw [WD1.out] | rw [WD2.out] | rw [WN1.out] | rw [WN2.out] | rw [WE1.out] | rw [WE2.out])
        try simp only [Act.put, putA, putZ, putS]
        refine tk [10, 11] ?_
        repeat (refine tkZ (oi := ⟨_, _, _, _, _, _⟩) (v := ?_) rfl (by kernel_rfl) (by rfl) (fun _ _ _ h => h) hS ?_ ?_; rotate_left; (· rintro W' ⟨z0, z1, z2, z3, z4, z5, z6, z7⟩; go_simp; try with_reducible rfl); try simp only [Act.put, putA, putZ, putS])
        refine tk0 ?_
        refine wpAnyZ_next (rs := [5]) (by kernel_rfl) (by simp) ?_
        refine NextZ.cons (o := ⟨some 76, _, _, _, _, _⟩) rfl (fun K hK => ?_) NextZ.nil
        go_simp
        refine (HUA.out _ HAX.out.fr).mono ?_
        rintro _ X0 ⟨U2, rfl, hu2, hb0⟩
        (try go_wp2_with fail)
        have HA0 := Lib.hid (HAX.out.below hb0)
        have HU2 := Lib.hid hu2
        clear hu2
        refine hK.out _ _ (HC9.out X0 HA0.out) (fun hS => ?_)
        clear hK K
        try simp only [Act.put, putA, putZ, putS]
        clear hb0
        refine wpAnyZ_next (rs := [12]) (by kernel_rfl) (by simp) ?_
        refine NextZ.cons (o := ⟨some 83, _, _, _, _, _⟩) rfl (fun K hK => ?_) NextZ.nil
        go_simp
        refine (rliving_any U2 o1 o2 _ HRT.out.1 HRT.out.2.1 HRT.out.2.2).mono ?_
        rintro _ X1 ⟨l2, rfl, hq1, hb1⟩
        (try go_wp2_with fail)
        have HA1 := Lib.hid (HA0.out.below hb1)
        have HQ1 := Lib.hid hq1
        clear hq1
        refine hK.out _ _ (HC9.out X1 HA1.out) (fun hS => ?_)
        clear hK K
        try simp only [Act.put, putA, putZ, putS]
        clear hb1
        refine wpAnyZ_next (rs := [13]) (by kernel_rfl) (by simp) ?_
        refine NextZ.cons (o := ⟨some 84, _, _, _, _, _⟩) rfl (fun K hK => ?_) NextZ.nil
        go_simp
        refine (sum_sub s0 l2 _).mono ?_
        rintro _ X2 ⟨s2, rfl, hq2, hb2⟩
        (try go_wp2_with fail)
        have HA2 := Lib.hid (HA1.out.below hb2)
        have HQ2 := Lib.hid hq2
        clear hq2
        refine hK.out _ _ (HC9.out X2 HA2.out) (fun hS => ?_)
        clear hK K
        try simp only [Act.put, putA, putZ, putS]
        clear hb2
        refine wpAnyZ_next (rs := [14]) (by kernel_rfl) (by simp) ?_
        refine NextZ.last (o := ⟨none, _, _, _, _, _⟩) rfl (by kernel_rfl) (fun K hK => ?_)
        have HRX : Hid (X2.heap[G]? = some (.cells (stA s0) 54 (0, 0))) := (HA2.out.bk _ _ _ (.head _)).2
        have HSZ := Lib.hid (stA_info s2)
        have HAS : Hid (BF w (X2.setRow G (stA s2)) [(G, stA s2, 54), (w.heap.size, #[.slice uca t.nc ucc, .slice uba t.nb ubc, .slice (some ⟨rb, ro, none⟩) t.nr urc, .slice (some ⟨nb, no, none⟩) t.nn unc], 25), (w.heap.size + 1, (outL out).toArray, 46), (w.heap.size + 1 + 1, stA fun _ => false, 54)]) := HA2.out.setrow (.head _) _ (List.forall_mem_cons.2 ⟨⟨show w.heap.size ≠ G by (have := hG3); omega, (.tail _ (.head _))⟩, List.forall_mem_cons.2 ⟨⟨show w.heap.size + 1 ≠ G by (have := hG3); omega, (.tail _ (.tail _ (.head _)))⟩, List.forall_mem_cons.2 ⟨⟨show w.heap.size + 1 + 1 ≠ G by (have := hG3); omega, (.tail _ (.tail _ (.tail _ (.head _))))⟩, List.forall_mem_nil _⟩⟩⟩)
        refine step_store_row (by rfl) 54 (.tmp 10) (.tmp 84) (by rfl) G (stA s2) (by rfl) (by rfl) 54 (stA s0) HRX.out HSZ.out rfl (stA_one _) ?_
        refine hK.out _ _ ?_
        clear hK K
        (try simp only [Act.put])
        refine wpAnyZ_done (by kernel_rfl) ?_ _
        go_wp2_with fail
        go_meet
        exact ⟨s2, H9.out _ _ _ HU2.out HQ1.out HQ2.out, HAS.out⟩
    · have hq : ((nx : Int) == (l : Int)) = false := by simp; omega
      have H0 : Hid (GoalS t out c g s0 s0) := ⟨fun e => absurd (HNX.out.symm.trans (e.trans HLL.out)) hgl, fun _ => rfl⟩
      clear hgl
      go_wp2_with fail
      go_meet
      exact ⟨s0, H0.out, HA5.out⟩
  rename World => w6
  obtain ⟨s1, hgs, hbf⟩ := hcut
  have HFIN : Hid (∀ q, (∀ i, i < 3000 → (q i = true ↔ DwnP s1 (p1, p2) i)) → DnS t out c g q) := fun q h => HLAW.out s0 s1 q HG0.out hgs h
  have HA6 := Lib.hid hbf
  clear hgs hbf HA5 HLAW HG0 HUP
  have HDB := Lib.hid (fun (n : Int) (hn : 0 ≤ n) (hn2 : n ≤ 3000) => deadR_bd (r := (p1, p2)) HPT.out.1 HPT.out.2.1 HPT.out.2.2 hn hn2)
  have HDL := Lib.hid (fun (n : Int) (hn : 0 ≤ n) => (deadR_le (r := (p1, p2)) HPT.out.1 HPT.out.2.1 HPT.out.2.2 hn).2.1)
  have HDE := Lib.hid (fun (n : Int) (hn : 0 ≤ n) (hn2 : n ≤ 1000000) => deadW_eq (r := (p1, p2)) HPT.out.1 HPT.out.2.1 HPT.out.2.2 hn hn2)
  clear HPT HNT WD1 WD2 WN1 WN2 HNL HRZ HRB HNZ HNC HPC
  have HA7 : Hid (BF w (w6.alloc (.cells Try.zeroCells54 54)) ((w6.heap.size, stA fun _ => false, 54) :: [(G, stA s1, 54), (w.heap.size, #[.slice uca t.nc ucc, .slice uba t.nb ubc, .slice (some ⟨rb, ro, none⟩) t.nr urc, .slice (some ⟨nb, no, none⟩) t.nn unc], 25), (w.heap.size + 1, (outL out).toArray, 46), (w.heap.size + 1 + 1, stA fun _ => false, 54)])) := by
    have h := HA6.out.alloc (stA fun _ => false) 54
    rw [← stA_zero] at h ⊢
    exact h
  have hGQ : G < w6.heap.size := (HA6.out.lt (.head _)).2
  go_upto_region 11 with (fail)
  obtain ⟨Q, hQ⟩ : ∃ Q, Q = w6.heap.size := ⟨_, rfl⟩
  rw [← hQ] at HA7 hGQ ⊢
  clear hQ HA6
  generalize (w6.alloc (.cells Try.zeroCells54 54)) = w7 at *
  go_wp2_with fail
  go_loopw [13] (fun i wr => ∃ (n : Nat) (q : Nat → Bool), i = .int .i64 n ∧ n ≤ 3000 ∧ BF w wr [(Q, stA q, 54), (G, stA s1, 54), (w.heap.size, #[.slice uca t.nc ucc, .slice uba t.nb ubc, .slice (some ⟨rb, ro, none⟩) t.nr urc, .slice (some ⟨nb, no, none⟩) t.nn unc], 25), (w.heap.size + 1, (outL out).toArray, 46), (w.heap.size + 1 + 1, stA fun _ => false, 54)] ∧ ∀ i, i < 3000 → (q i = true ↔ (i < n ∧ DwnP s1 (p1, p2) i))) (fun i _ => (3000 - intOf i).toNat)
  case atStart => exact ⟨0, fun _ => false, rfl, by omega, HA7.out, fun i _ => ⟨fun h => (by cases h), fun ⟨h, _⟩ => absurd h (Nat.not_lt_zero _)⟩⟩
  case round =>
    obtain ⟨n, q, rfl, hn, hbf, hq⟩ := hrel
    rename World => wx
    have HA := Lib.hid hbf; have HQ := Lib.hid hq
    clear hbf HA7 hq
    have ni' : (0 : Int) ≤ (n : Int) := by omega
    by_cases hc3 : n < 3000
    · as_aux_lemma =>
      have nj : (n : Int) < 3000 := by omega
      have c2 : wx.cell? ⟨w.heap.size, 2, none⟩ = some (.slice (some ⟨rb, ro, none⟩) t.nr urc) := HA.out.cell (.tail _ (.tail _ (.head _))) 2
      obtain ⟨x0, x1⟩ := HRC.out _ HA.out.fr
      obtain ⟨dl, dh, HDD2⟩ : ∃ dl dh, Hid (deadR (p1, p2) (n : Int) = (dl, dh)) := ⟨_, _, rfl⟩
      have hdb := HDB.out (n : Int) ni' (by omega)
      have hde := HDE.out (n : Int) ni' (by omega)
      have hdl := HDL.out (n : Int) ni'
      rw [HDD2.out] at hdb hde hdl
      obtain ⟨d1, d2, d3, d4⟩ := hdb
      simp only at d1 d2 d3 d4 hdl
      have HDC : Hid (∀ X, Calls Try.prog 69 #[.int .i64 (n : Int), .agg #[.int .i64 p1, .int .i64 p2]] X fun e w' => e = .returned (.agg #[.int .i64 dl, .int .i64 dh]) ∧ Below X.heap.size X w') := fun X => by
        have h := rDeadW_any (n : Int) p1 p2 X
        rw [hde] at h
        exact h
      clear hde
      go_wp2_with fail
      refine (HDC.out _).mono ?_
      rintro _ w8 ⟨rfl, hb8⟩
      have HA8 := Lib.hid ((HA.out.below hb8).alloc #[.int .i64 dl, .int .i64 dh] 43)
      have hlt : Q < w8.heap.size := ((HA.out.below hb8).lt (.head _)).2
      clear hb8 HA c2 x0 x1
      obtain ⟨D, hD⟩ : ∃ D, D = w8.heap.size := ⟨_, rfl⟩
      have HDN : Hid (D ≠ Q) := by unfold Hid; omega
      have HA : Hid (BF w (w8.alloc (.cells #[.int .i64 dl, .int .i64 dh] 43)) [(Q, stA q, 54), (D, #[.int .i64 dl, .int .i64 dh], 43), (G, stA s1, 54), (w.heap.size, #[.slice uca t.nc ucc, .slice uba t.nb ubc, .slice (some ⟨rb, ro, none⟩) t.nr urc, .slice (some ⟨nb, no, none⟩) t.nn unc], 25), (w.heap.size + 1, (outL out).toArray, 46), (w.heap.size + 1 + 1, stA fun _ => false, 54)]) := by
        rw [hD]
        exact HA8.out.sub (List.forall_mem_cons.2 ⟨.tail _ (.head _), List.forall_mem_cons.2 ⟨.head _, List.forall_mem_cons.2 ⟨.tail _ (.tail _ (.head _)), List.forall_mem_cons.2 ⟨.tail _ (.tail _ (.tail _ (.head _))), List.forall_mem_cons.2 ⟨.tail _ (.tail _ (.tail _ (.tail _ (.head _)))), List.forall_mem_cons.2 ⟨.tail _ (.tail _ (.tail _ (.tail _ (.tail _ (.head _))))), List.forall_mem_nil _⟩⟩⟩⟩⟩⟩)
      have k0 : (w8.alloc (.cells #[.int .i64 dl, .int .i64 dh] 43)).cell? ⟨w8.heap.size, 0, none⟩ = some (.int .i64 dl) := HA8.out.cell (.head _) 0
      clear HA8 hlt
      go_wp2_with fail
      clear k0
      generalize (w8.alloc (.cells #[.int .i64 dl, .int .i64 dh] 43)) = w9 at *
      rw [← hD]
      clear hD
      go_loopw [15] (fun j wr => ∃ (m : Int) (q : Nat → Bool), j = .int .i64 m ∧ dl ≤ m ∧ m ≤ dh + 1 ∧ BF w wr [(Q, stA q, 54), (D, #[.int .i64 dl, .int .i64 dh], 43), (G, stA s1, 54), (w.heap.size, #[.slice uca t.nc ucc, .slice uba t.nb ubc, .slice (some ⟨rb, ro, none⟩) t.nr urc, .slice (some ⟨nb, no, none⟩) t.nn unc], 25), (w.heap.size + 1, (outL out).toArray, 46), (w.heap.size + 1 + 1, stA fun _ => false, 54)] ∧ ∀ i, i < 3000 → (q i = true ↔ ((i < n ∧ DwnP s1 (p1, p2) i) ∨ (i = n ∧ ∃ y, y ≤ n ∧ s1 y = true ∧ dl ≤ (n : Int) - y ∧ (n : Int) - y < m)))) (fun j _ => (4000 - intOf j).toNat)
      case atStart => exact ⟨dl, q, rfl, by omega, by omega, HA.out, fun i hi => (HQ.out i hi).trans ⟨.inl, fun h => h.elim id (fun ⟨_, _, _, _, a, b⟩ => by omega)⟩⟩
      case round =>
        clear HA HQ
        obtain ⟨m, q, rfl, hml, hmq, hbf, hq⟩ := hrel
        rename World => wy
        have HA := Lib.hid hbf; have HQ := Lib.hid hq
        clear hbf hq
        have hm1 : m ≤ 3002 := by omega
        have hm2 : 0 ≤ m := by omega
        have c1 : wy.cell? ⟨D, 1, none⟩ = some (.int .i64 dh) := HA.out.cell (.tail _ (.head _)) 1
        have HEX : Hid (((dh < m ∨ (n : Int) < m) ∨ q n = true) → ∀ i, i < 3000 → (q i = true ↔ (i < n + 1 ∧ DwnP s1 (p1, p2) i))) := fun hx i hi => by
          rw [HQ.out i hi]
          constructor
          · rintro (⟨a, b⟩ | ⟨rfl, y, a, b, e, f⟩)
            · exact ⟨by omega, b⟩
            · exact ⟨by omega, y, a, b, by rw [HDD2.out]; exact e, by rw [HDD2.out]; show (i : Int) - y ≤ dh; omega⟩
          · rintro ⟨a, b⟩
            by_cases e : i = n
            · subst e
              rcases hx with hx | hx
              · obtain ⟨y, a', b', e, f⟩ := b
                rw [HDD2.out] at e f
                simp only at e f
                exact .inr ⟨rfl, y, a', b', e, by omega⟩
              · exact (HQ.out i hi).1 hx
            · exact .inl ⟨by omega, b⟩
        obtain ⟨b, hb⟩ : ∃ b, q n = b := ⟨_, rfl⟩
        have HQN := Lib.hid hb
        have f1 : wy.cell? ⟨Q, n, none⟩ = some (.bool (q n)) := HA.out.stcell (.head _) hc3
        rw [hb] at f1
        clear hb
        by_cases hmh : m ≤ dh ∧ m ≤ n ∧ b = false
        · obtain ⟨hmh, hmn, rfl⟩ := hmh
          obtain ⟨k, hk⟩ : ∃ k : Nat, (n : Int) - m = (k : Int) := ⟨((n : Int) - m).toNat, by omega⟩
          have hk3 : k < 3000 := by omega
          have hki : (0 : Int) ≤ (k : Int) := by omega
          have hkj : (k : Int) < 3000 := by omega
          obtain ⟨a, ha⟩ : ∃ a, s1 k = a := ⟨_, rfl⟩
          have HSK := Lib.hid ha
          have f2 : wy.cell? ⟨G, k, none⟩ = some (.bool (s1 k)) := HA.out.stcell (.tail _ (.tail _ (.head _))) hk3
          rw [ha] at f2
          clear ha
          have f3 : wy.frozen? ⟨Q, n, none⟩ = false := HA.out.thaw (.head _) n
          have HS : Hid (BF w (wy.setCell ⟨Q, n, none⟩ (.bool a)) [(Q, stA (fun i => if i = n then a else q i), 54), (D, #[.int .i64 dl, .int .i64 dh], 43), (G, stA s1, 54), (w.heap.size, #[.slice uca t.nc ucc, .slice uba t.nb ubc, .slice (some ⟨rb, ro, none⟩) t.nr urc, .slice (some ⟨nb, no, none⟩) t.nn unc], 25), (w.heap.size + 1, (outL out).toArray, 46), (w.heap.size + 1 + 1, stA fun _ => false, 54)]) := HA.out.stput (.head _) a hc3 (List.forall_mem_cons.2 ⟨⟨HDN.out, (.tail _ (.head _))⟩, List.forall_mem_cons.2 ⟨⟨show G ≠ Q by omega, (.tail _ (.tail _ (.head _)))⟩, List.forall_mem_cons.2 ⟨⟨show w.heap.size ≠ Q by omega, (.tail _ (.tail _ (.tail _ (.head _))))⟩, List.forall_mem_cons.2 ⟨⟨show w.heap.size + 1 ≠ Q by omega, (.tail _ (.tail _ (.tail _ (.tail _ (.head _)))))⟩, List.forall_mem_cons.2 ⟨⟨show w.heap.size + 1 + 1 ≠ Q by omega, (.tail _ (.tail _ (.tail _ (.tail _ (.tail _ (.head _))))))⟩, List.forall_mem_nil _⟩⟩⟩⟩⟩)
          have HQ2 : Hid (∀ i, i < 3000 → ((if i = n then a else q i) = true ↔ ((i < n ∧ DwnP s1 (p1, p2) i) ∨ (i = n ∧ ∃ y, y ≤ n ∧ s1 y = true ∧ dl ≤ (n : Int) - y ∧ (n : Int) - y < m + 1)))) := fun i hi => by
            by_cases e : i = n
            · subst e
              rw [if_pos rfl]
              constructor
              · intro h
                exact .inr ⟨rfl, k, by omega, HSK.out.trans h, by omega, by omega⟩
              · rintro (⟨h, _⟩ | ⟨_, y, h1, h2, h3, h4⟩)
                · exact absurd h (Nat.lt_irrefl _)
                · by_cases e2 : y = k
                  · rw [← HSK.out, ← e2]; exact h2
                  · have hq := (HQ.out i hi).2 (.inr ⟨rfl, y, h1, h2, h3, by omega⟩)
                    rw [HQN.out] at hq
                    cases hq
            · rw [if_neg e, HQ.out i hi]
              exact ⟨fun h => h.elim .inl (fun h => absurd h.1 e), fun h => h.elim .inl (fun h => absurd h.1 e)⟩
          have HML : Hid (dl ≤ m + 1) := by unfold Hid; omega
          have HMQ : Hid (m + 1 ≤ dh + 1) := by unfold Hid; omega
          have HME : Hid ((4000 - (m + 1)).toNat < (4000 - m).toNat) := by unfold Hid; omega
          clear HA HQ hmq HEX HQN
          go_wp2_with fail
          go_roundw
          case rel => exact ⟨m + 1, _, by go_num, HML.out, HMQ.out, HS.out, HQ2.out⟩
          case measure => simp [intOf]; omega
        · have HA4 := Lib.hid (HA.out.sub (List.forall_mem_cons.2 ⟨.head _, List.forall_mem_cons.2 ⟨.tail _ (.tail _ (.head _)), List.forall_mem_cons.2 ⟨.tail _ (.tail _ (.tail _ (.head _))), List.forall_mem_cons.2 ⟨.tail _ (.tail _ (.tail _ (.tail _ (.head _)))), List.forall_mem_cons.2 ⟨.tail _ (.tail _ (.tail _ (.tail _ (.tail _ (.head _))))), List.forall_mem_nil _⟩⟩⟩⟩⟩))
          clear HA
          by_cases hx : m ≤ dh
          · by_cases hy : m ≤ (n : Int)
            · have hb : b = true := by cases b with
                | true => rfl
                | false => exact absurd ⟨hx, hy, rfl⟩ hmh
              subst hb
              have HQ2 := Lib.hid (HEX.out (.inr HQN.out))
              clear hmh hmq HEX HQN HQ
              go_wp2_with fail
              go_roundw
              case rel => exact ⟨n + 1, q, by go_num, by omega, HA4.out, HQ2.out⟩
              case measure => simp [intOf]; omega
            · have HQ2 := Lib.hid (HEX.out (.inl (.inr (by omega))))
              clear hmh hmq HEX HQN HQ
              go_wp2_with fail
              go_roundw
              case rel => exact ⟨n + 1, q, by go_num, by omega, HA4.out, HQ2.out⟩
              case measure => simp [intOf]; omega
          · have HQ2 := Lib.hid (HEX.out (.inl (.inl (by omega))))
            clear hmh hmq HEX HQN HQ
            go_wp2_with fail
            go_roundw
            case rel => exact ⟨n + 1, q, by go_num, by omega, HA4.out, HQ2.out⟩
            case measure => simp [intOf]; omega
    · obtain rfl : n = 3000 := by omega
      have HQF := Lib.hid (HFIN.out q (fun i hi => (HQ.out i hi).trans ⟨fun h => h.2, fun h => ⟨hi, h⟩⟩))
      have HG : Hid (wx.heap[Q]? = some (.cells (stA q) 54 (0, 0))) := (HA.out.bk _ _ _ (.head _)).2
      have HR : Hid (wx.heap[w.heap.size + 1 + 1]? = some (.cells (stA fun _ => false) 54 (0, 0))) := (HA.out.bk _ _ _ (.tail _ (.tail _ (.tail _ (.tail _ (.head _)))))).2
      go_upto_region 19 with (fail)
      have HSZ := Lib.hid (stA_info q)
      refine wp_region_lit ?_
      refine wpList_load_row (o := ⟨some 123, _, _, _, _, _⟩) rfl 54 (.tmp 12) rfl Q rfl 54 (stA q) (0, 0) _ HG.out Try.underlying54 rfl HSZ.out ?_
      refine wpList_store_row (o := ⟨none, .store 54 (.tmp 8) (.tmp 123), _, _, _, _⟩) rfl 54 (.tmp 8) (.tmp 123) rfl (w.heap.size + 1 + 1) (stA q) rfl rfl 54 (stA fun _ => false) HR.out HSZ.out rfl (stA_one _) ?_
      go_wp2_with fail
      refine bodyPost_ret (v := .agg (stA q)) (results_cell_row rfl _ _ (w.heap.size + 1 + 1) 54 _ (0, 0) _ rfl (setRow_heap _ _ _ _ _ _ HR.out) Try.underlying54 rfl HSZ.out) rfl ⟨q, rfl, HQF.out, ?_⟩
      exact HA.out.fr.trans ⟨rfl, rfl, rfl, by simp, fun q hq => setRow_other _ _ _ _ (by omega)⟩

theorem down_all {t : Tb} {out : Nat → Nat → Bool} (ht : OkR t) (hs : t.small) (hnb : t.nb + 1 = t.nc) (hu : Ups t out) : ∀ k c, c + k + 1 = t.nc → DownC t out c
  | 0, c, h => by
    have e : c = t.nc - 1 := by omega
    rw [e]
    exact down_zero out ht
  | k + 1, c, h => down_succ ht hs hnb hu (by omega) (down_all ht hs hnb hu k (c + 1) (by omega))
end Go.Proofs.Ytjaoflfophcibaa
