/- The reference's Free, by its Up. Printed by gen_kl.py. -/
import Derived.Test.YtjaoflfophcibaaKK
namespace Go.Proofs.Ytjaoflfophcibaa
open Go.RowKit Go.Shelf

theorem BF.setrow {w X : World} {L : List (Nat × Array Value × TypeId)} {b : Nat} {old : Array Value} {T : TypeId} (h : BF w X L) (hb : (b, old, T) ∈ L) (cs : Array Value) {L' : List (Nat × Array Value × TypeId)} (hl : ∀ y, y ∈ L' → y.1 ≠ b ∧ y ∈ L) : BF w (X.setRow b cs) ((b, cs, T) :: L') := by
  have h1 := h.bk _ _ _ hb
  refine ⟨h.fr.trans ⟨rfl, rfl, rfl, by simp, fun q hq => setRow_other _ _ _ _ (by omega)⟩, fun b' cs' T' hm => ?_⟩
  rcases List.mem_cons.1 hm with e | hm
  · cases e
    exact ⟨h1.1, setRow_heap _ _ _ _ _ _ h1.2⟩
  · obtain ⟨h2, h3⟩ := hl _ hm
    have h4 := h.bk _ _ _ h3
    exact ⟨h4.1, (setRow_other _ _ _ _ h2).trans h4.2⟩
set_option maxRecDepth 100000 in
set_option maxHeartbeats 4000000 in
theorem free_zero (t : Tb) (out : Nat → Nat → Bool) : FreeC t out 0 := by
  intro u g w _ _
  have e : ((0 : Nat) : Int) = 0 := rfl
  rw [e]
  clear e
  have HA0 : Hid (BF w (((w.alloc (.cells #[u.cv t, u.bv t, u.rv t, u.nv t] 25)).alloc (.cells (outL out).toArray 46)).alloc (.cells Try.zeroCells54 54)) [(w.heap.size, #[u.cv t, u.bv t, u.rv t, u.nv t], 25), (w.heap.size + 1, (outL out).toArray, 46), (w.heap.size + 2, stA fun _ => false, 54)]) := by
    have h := BF.made3 w #[u.cv t, u.bv t, u.rv t, u.nv t] (outL out).toArray Try.zeroCells54 25 46 54
    rw [stA_zero] at h ⊢
    exact h
  simp only [WV.cv, WV.bv, WV.rv, WV.nv] at HA0 ⊢
  go_enter Try.func28, Try.ntmps28
  go_upto_region 1 with (refine wpList_box_row (o := ⟨some 7, .box 46 (.tmp 3), _, _, _, _⟩) rfl 46 (.tmp 3) rfl (outL out).toArray rfl ?_)
  generalize (((w.alloc (.cells #[.slice u.ca t.nc u.cc, .slice u.ba t.nb u.bc, .slice u.ra t.nr u.rc, .slice u.na t.nn u.nc] 25)).alloc (.cells (outL out).toArray 46)).alloc (.cells Try.zeroCells54 54)) = w1 at *
  go_wp2_with fail
  refine (filled_any 0 500 _).mono ?_
  rintro _ w2 ⟨rfl, hb2⟩
  have HA := Lib.hid (HA0.out.below hb2)
  have HR : Hid (w2.heap[w.heap.size + 1 + 1]? = some (.cells (stA fun _ => false) 54 (0, 0))) := (HA.out.bk _ _ _ (.tail _ (.tail _ (.head _)))).2
  have HSZ := Lib.hid (stA_info (fillP 0 500))
  clear hb2
  go_wp2_with (refine wpList_store_row (o := ⟨none, .store 54 (.tmp 8) (.tmp 13), _, _, _, _⟩) rfl 54 (.tmp 8) (.tmp 13) rfl (w.heap.size + 1 + 1) (stA (fillP 0 500)) rfl rfl 54 (stA fun _ => false) HR.out HSZ.out rfl (stA_one _) ?_)
  exact bodyPost_ret (v := .agg (stA (fillP 0 500))) (results_cell_row rfl _ _ (w.heap.size + 1 + 1) 54 _ (0, 0) _ rfl (setRow_heap _ _ _ _ _ _ HR.out) Try.underlying54 rfl HSZ.out) rfl ⟨_, rfl, IvS.fill 0 500, HA.out.fr.trans ⟨rfl, rfl, rfl, by simp, fun q hq => setRow_other _ _ _ _ (by omega)⟩⟩
theorem rs_fn {w : World} {a : Option Addr} {n cap : Nat} {R : Nat → R2} (h : RsIn w (.slice a n cap) n R) (hn : 0 < n) : ∃ b o, a = some ⟨b, o, none⟩ ∧ b < w.heap.size ∧ ∀ j, j < n → w.cell? ⟨b, o + j * 2, none⟩ = some (.int .i64 (R j).1) ∧ w.cell? ⟨b, o + j * 2 + 1, none⟩ = some (.int .i64 (R j).2) := by
  rcases h with ⟨_, _, _, h⟩ | ⟨b', o', c', e, hb, hz⟩
  · omega
  · cases e
    exact ⟨_, _, rfl, hb, hz⟩
/-- The survivors of the group below, or of the births. -/
def Mid1 (t : Tb) (out : Nat → Nat → Bool) (c g : Nat) (s0 : Nat → Bool) : Prop :=
  (g = 0 → ∀ i, i < 3000 → (s0 i = true ↔ LivP (fillP (t.b c).1 (t.b c).2) (t.r 0) 3000 i)) ∧ (0 < g → ∃ U1, IvS U1 (t.up out c (g - 1)) ∧ ∀ i, i < 3000 → (s0 i = true ↔ LivP U1 (t.r g) 3000 i))
/-- Those of the last group besides. -/
def Mid2 (t : Tb) (out : Nat → Nat → Bool) (c g : Nat) (s0 s1 : Nat → Bool) : Prop :=
  (g = t.last → ∃ U2 l2, IvS U2 (t.up out c g) ∧ (∀ i, i < 3000 → (l2 i = true ↔ LivP U2 (t.r (g + 1)) 3000 i)) ∧ ∀ i, i < 3000 → (s1 i = true ↔ SumP s0 l2 1 3000 i)) ∧ (g ≠ t.last → s1 = s0)
theorem mid_set {t : Tb} {out : Nat → Nat → Bool} {c g : Nat} {s0 s1 s : Nat → Bool} (ht : OkR t) (hc : c < t.nb) (hcn : c < t.nc) (h3 : c ≤ 3) (hg : g < t.ng) (hsum : 0 < g → g = t.last → (t.up out c (g - 1)).2 + (t.up out c g).2 ≤ 2999)
    (m1 : Mid1 t out c g s0) (m2 : Mid2 t out c g s0 s1) (hs : ∀ i, i < 3000 → (s i = true ↔ MovP s1 (t.n g).1 (t.n g).2 3000 i)) : IvS s (t.before out (c + 1) g) := by
  show IvS s (t.arr c g (t.up out c))
  have hb := ht.b c hc
  have hn := ht.n g (by rw [ht.nn]; exact hg)
  have hu := up_inB (out := out) ht.w (ht.own out) (c := c) (by omega) h3 hcn
  by_cases e0 : 0 < g
  · obtain ⟨U1, hU1, k0⟩ := m1.2 e0
    by_cases e1 : g = t.last
    · obtain ⟨U2, l2, hU2, k1, k2⟩ := m2.1 e1
      exact arr_set ht.ng2 hg (fun e => absurd e (by omega)) ht.w.r hn.2.1 hu hsum (fun _ => hU1) (fun _ => hU2) (fun e => absurd e (by omega)) (fun _ => k0) (fun _ => ⟨k1, k2⟩) (fun e => absurd e1 e) hs
    · exact arr_set (U2 := U1) (l2 := U1) ht.ng2 hg (fun e => absurd e (by omega)) ht.w.r hn.2.1 hu hsum (fun _ => hU1) (fun e => absurd e e1) (fun e => absurd e (by omega)) (fun _ => k0) (fun e => absurd e e1) m2.2 hs
  · have eg : g = 0 := by omega
    have e1 : g ≠ t.last := by have := ht.ng2; unfold Tb.last; omega
    exact arr_set (U1 := s0) (U2 := s0) (l2 := s0) ht.ng2 hg (fun _ => ⟨hb.1, hb.2.1, by omega⟩) ht.w.r hn.2.1 hu hsum (fun e => absurd e e0) (fun e => absurd e e1) m1.1 (fun e => absurd e e0) (fun e => absurd e e1) m2.2 hs
set_option maxRecDepth 100000 in
set_option maxHeartbeats 8000000 in
theorem free_succ {t : Tb} {out : Nat → Nat → Bool} {c : Nat} (ht : OkR t) (hs : t.small) (hc : c < t.nb) (hcn : c < t.nc) (h3 : c ≤ 3) (hsum : ∀ g, 0 < g → g = t.last → (t.up out c (g - 1)).2 + (t.up out c g).2 ≤ 2999) (HU : UpC t out c) : FreeC t out (c + 1) := by
  intro u g w hl hg
  have HGR : Hid (∀ X, Below w.heap.size w X → Calls Try.prog 23 #[.agg #[u.cv t, u.bv t, u.rv t, u.nv t]] X fun e w' => e = .returned (.int .i64 (t.ng : Nat)) ∧ Below X.heap.size X w') := fun X hX => rgroups_any _ t X (hl.below hX).tb hs
  have HUP : Hid (∀ X h, Below w.heap.size w X → h < t.ng → Calls Try.prog 44 #[.agg #[u.cv t, u.bv t, u.rv t, u.nv t], .int .i64 c, .int .i64 (h : Nat), .agg (outL out).toArray] X fun e w' => ∃ q, e = .returned (.agg (stA q)) ∧ IvS q (t.up out c h) ∧ Below X.heap.size X w') := fun X h hX hh => HU u h X (hl.below hX) hh
  obtain ⟨b1, b2, HBC⟩ : ∃ b1 b2, Hid (t.b c = (b1, b2)) := ⟨_, _, rfl⟩
  obtain ⟨n1, n2, HNC⟩ : ∃ n1 n2, Hid (t.n g = (n1, n2)) := ⟨_, _, rfl⟩
  obtain ⟨bb, bo, hba, hbb, hbz⟩ := rs_fn hl.2.1 (by omega)
  obtain ⟨rb, ro, hra, hrb, hrz⟩ := rs_fn hl.2.2.1 (by rw [ht.nr]; omega)
  obtain ⟨nb, no, hna, hnb, hnz⟩ := rs_fn hl.2.2.2 (by rw [ht.nn]; omega)
  obtain ⟨uca, ucc, uba, ubc, ura, urc, una, unc⟩ := u
  simp only at hba hra hna
  subst hba hra hna
  simp only [WV.cv, WV.bv, WV.rv, WV.nv] at HGR HUP ⊢
  have ng2 := ht.ng2; have ng4 := ht.ng4; have nbq := ht.nb4; have ncq := ht.nc4
  have HRZ : Hid (∀ j, j < t.ng + 1 → ∀ X, Below w.heap.size w X → X.cell? ⟨rb, ro + j * 2, none⟩ = some (.int .i64 (t.r j).1) ∧ X.cell? ⟨rb, ro + j * 2 + 1, none⟩ = some (.int .i64 (t.r j).2)) := fun j hj X hX => ⟨kept hX hrb (hrz j (by rw [ht.nr]; exact hj)).1, kept hX hrb (hrz j (by rw [ht.nr]; exact hj)).2⟩
  have HRB : Hid (∀ j, j < t.ng + 1 → 0 ≤ (t.r j).1 ∧ (t.r j).1 ≤ (t.r j).2 ∧ (t.r j).2 ≤ 1000) := fun j hj => ht.r j (by rw [ht.nr]; exact hj)
  have HBZ : Hid (∀ X, Below w.heap.size w X → X.cell? ⟨bb, bo + c * 2, none⟩ = some (.int .i64 b1) ∧ X.cell? ⟨bb, bo + c * 2 + 1, none⟩ = some (.int .i64 b2)) := fun X hX => by
    have h := hbz c hc
    rw [HBC.out] at h
    exact ⟨kept hX hbb h.1, kept hX hbb h.2⟩
  have HNZ : Hid (∀ X, Below w.heap.size w X → X.cell? ⟨nb, no + g * 2, none⟩ = some (.int .i64 n1) ∧ X.cell? ⟨nb, no + g * 2 + 1, none⟩ = some (.int .i64 n2)) := fun X hX => by
    have h := hnz g (by rw [ht.nn]; exact hg)
    rw [HNC.out] at h
    exact ⟨kept hX hnb h.1, kept hX hnb h.2⟩
  have HNT : Hid (-1000 ≤ n1 ∧ n1 ≤ 1000 ∧ -1000 ≤ n2 ∧ n2 ≤ 1000) := by
    have h := ht.n g (by rw [ht.nn]; exact hg)
    rw [HNC.out] at h
    simp only at h
    exact ⟨by omega, by omega, by omega, by omega⟩
  have gnn : (g : Int) < (t.nn : Int) := by rw [ht.nn]; omega
  have gnr : (g : Int) + 1 < (t.nr : Int) := by rw [ht.nr]; omega
  have HMS : Hid (∀ s0 s1 s, Mid1 t out c g s0 → Mid2 t out c g s0 s1 → (∀ i, i < 3000 → (s i = true ↔ MovP s1 n1 n2 3000 i)) → IvS s (t.before out (c + 1) g)) := fun s0 s1 s m1 m2 h => mid_set ht hc hcn h3 hg (hsum g) m1 m2 (by rw [HNC.out]; exact h)
  clear hl HU hbz hrz hnz hbb hrb hnb ht hs hsum
  obtain ⟨d, hd⟩ : ∃ d, d = c + 1 := ⟨_, rfl⟩
  rw [← hd]
  have hdc : (d : Int) - 1 = (c : Int) := by omega
  have hd0 : ((d : Int) == 0) = false := by simp; omega
  have HD := Lib.hid hd
  clear hd
  have di : (0 : Int) ≤ (d : Int) := by omega
  have dj : (d : Int) ≤ 4 := by omega
  have gi : (0 : Int) ≤ (g : Int) := by omega
  have gj : (g : Int) < (t.ng : Int) := by omega
  have cj : (c : Int) < (t.nb : Int) := by omega
  have ci : (0 : Int) ≤ (c : Int) := by omega
  have HA0 : Hid (BF w ((((w.alloc (.cells #[.slice uca t.nc ucc, .slice (some ⟨bb, bo, none⟩) t.nb ubc, .slice (some ⟨rb, ro, none⟩) t.nr urc, .slice (some ⟨nb, no, none⟩) t.nn unc] 25)).alloc (.cells (outL out).toArray 46)).alloc (.cells Try.zeroCells54 54)).alloc (.cells Try.zeroCells54 54)) [(w.heap.size + 1 + 1 + 1, stA (fun _ => false), 54), (w.heap.size, #[.slice uca t.nc ucc, .slice (some ⟨bb, bo, none⟩) t.nb ubc, .slice (some ⟨rb, ro, none⟩) t.nr urc, .slice (some ⟨nb, no, none⟩) t.nn unc], 25), (w.heap.size + 1, (outL out).toArray, 46), (w.heap.size + 1 + 1, stA fun _ => false, 54)]) := by
    have h := made4 w #[.slice uca t.nc ucc, .slice (some ⟨bb, bo, none⟩) t.nb ubc, .slice (some ⟨rb, ro, none⟩) t.nr urc, .slice (some ⟨nb, no, none⟩) t.nn unc] (outL out).toArray Try.zeroCells54 Try.zeroCells54 25 46 54 54
    rw [stA_zero] at h ⊢
    exact h
  have WD1 : Hid (IntKind.i64.wrap ((d : Int) - 1) = (c : Int)) := by rw [Hid, hdc]; exact IntWalk.i64_in _ (by omega)
  have WD2 : Hid (IntKind.i64.wrap (c : Int) = (c : Int)) := IntWalk.i64_in _ (by omega)
  go_enter Try.func28, Try.ntmps28
  go_upto_region 4 with (refine wpList_box_row (o := ⟨some 7, .box 46 (.tmp 3), _, _, _, _⟩) rfl 46 (.tmp 3) rfl (outL out).toArray rfl ?_)
  generalize ((((w.alloc (.cells #[.slice uca t.nc ucc, .slice (some ⟨bb, bo, none⟩) t.nb ubc, .slice (some ⟨rb, ro, none⟩) t.nr urc, .slice (some ⟨nb, no, none⟩) t.nn unc] 25)).alloc (.cells (outL out).toArray 46)).alloc (.cells Try.zeroCells54 54)).alloc (.cells Try.zeroCells54 54)) = w1 at *
  go_upto_if 15 with (fail)
  go_cut [] (fun wy => ∃ s0, Mid1 t out c g s0 ∧ BF w wy [(w.heap.size + 1 + 1 + 1, stA s0, 54), (w.heap.size, #[.slice uca t.nc ucc, .slice (some ⟨bb, bo, none⟩) t.nb ubc, .slice (some ⟨rb, ro, none⟩) t.nr urc, .slice (some ⟨nb, no, none⟩) t.nn unc], 25), (w.heap.size + 1, (outL out).toArray, 46), (w.heap.size + 1 + 1, stA fun _ => false, 54)])
  case first => as_aux_lemma =>
    by_cases hg0 : g = 0
    · have hq : ((g : Int) == 0) = true := by simp; omega
      obtain ⟨p1, p2, HPR⟩ : ∃ p1 p2, Hid (t.r 0 = (p1, p2)) := ⟨_, _, rfl⟩
      have HRT : Hid (0 ≤ p1 ∧ p1 ≤ p2 ∧ p2 ≤ 1000) := by
        have h := HRB.out 0 (by omega)
        rw [HPR.out] at h
        exact h
      have H5 : Hid (∀ s0, (∀ i, i < 3000 → (s0 i = true ↔ LivP (fillP b1 b2) (p1, p2) 3000 i)) → Mid1 t out c g s0) := fun s0 h => ⟨fun _ => by rw [HBC.out, HPR.out]; exact h, fun e => absurd e (by omega)⟩
      have rnr : 0 < t.nr := by omega
      have HC5 : Hid (∀ X, BF w X [(w.heap.size + 1 + 1 + 1, stA (fun _ => false), 54), (w.heap.size, #[.slice uca t.nc ucc, .slice (some ⟨bb, bo, none⟩) t.nb ubc, .slice (some ⟨rb, ro, none⟩) t.nr urc, .slice (some ⟨nb, no, none⟩) t.nn unc], 25), (w.heap.size + 1, (outL out).toArray, 46), (w.heap.size + 1 + 1, stA fun _ => false, 54)] → (X.cell? ⟨w.heap.size, 0, none⟩ = some (.slice uca t.nc ucc) ∧ X.cell? ⟨w.heap.size, 1, none⟩ = some (.slice (some ⟨bb, bo, none⟩) t.nb ubc) ∧ X.cell? ⟨w.heap.size, 2, none⟩ = some (.slice (some ⟨rb, ro, none⟩) t.nr urc) ∧ X.cell? ⟨w.heap.size, 3, none⟩ = some (.slice (some ⟨nb, no, none⟩) t.nn unc) ∧ X.cell? ⟨bb, bo + c * 2, none⟩ = some (.int .i64 b1) ∧ X.cell? ⟨bb, bo + c * 2 + 1, none⟩ = some (.int .i64 b2) ∧ X.cell? ⟨rb, ro, none⟩ = some (.int .i64 p1) ∧ X.cell? ⟨rb, ro + 1, none⟩ = some (.int .i64 p2))) := fun X h => ⟨h.cell (.tail _ (.head _)) 0, h.cell (.tail _ (.head _)) 1, h.cell (.tail _ (.head _)) 2, h.cell (.tail _ (.head _)) 3, (HBZ.out X h.fr).1, (HBZ.out X h.fr).2, by
        have k := (HRZ.out 0 (by omega) X h.fr).1
        rw [HPR.out, Nat.zero_mul, Nat.add_zero] at k
        exact k, by
        have k := (HRZ.out 0 (by omega) X h.fr).2
        rw [HPR.out, Nat.zero_mul, Nat.add_zero] at k
        exact k⟩
      clear hg0
      go_wp2_with fail
      have HAX := Lib.hid (HA0.out.below (Below.refl _ w1).drew)
      refine wp_region_Z (S := fun X => X.cell? ⟨w.heap.size, 0, none⟩ = some (.slice uca t.nc ucc) ∧ X.cell? ⟨w.heap.size, 1, none⟩ = some (.slice (some ⟨bb, bo, none⟩) t.nb ubc) ∧ X.cell? ⟨w.heap.size, 2, none⟩ = some (.slice (some ⟨rb, ro, none⟩) t.nr urc) ∧ X.cell? ⟨w.heap.size, 3, none⟩ = some (.slice (some ⟨nb, no, none⟩) t.nn unc) ∧ X.cell? ⟨bb, bo + c * 2, none⟩ = some (.int .i64 b1) ∧ X.cell? ⟨bb, bo + c * 2 + 1, none⟩ = some (.int .i64 b2) ∧ X.cell? ⟨rb, ro, none⟩ = some (.int .i64 p1) ∧ X.cell? ⟨rb, ro + 1, none⟩ = some (.int .i64 p2)) (by kernel_rfl) (HC5.out _ HAX.out) (fun hS => ?_)
      generalize w1.drew = X at *
      refine tk [0, 1, 2] ?_
      repeat (refine tkZ (oi := ⟨_, _, _, _, _, _⟩) (v := ?_) rfl (by kernel_rfl) (by rfl) (fun _ _ _ h => h) hS ?_ ?_; rotate_left; (· rintro W' ⟨z0, z1, z2, z3, z4, z5, z6, z7⟩; go_simp; try with_reducible rfl); try simp only [Act.put, putA, putZ, putS])
      refine tk0 ?_
      refine tZ 3 (oi := ⟨_, _, _, _, _, _⟩) (v := .int .i64 (c : Int)) rfl (by kernel_rfl) (by rfl) (fun _ _ _ h => h) hS ?_ ?_
      · rintro W' ⟨z0, z1, z2, z3, z4, z5, z6, z7⟩; go_simp; (try first | rw [WD1.out] | rw [WD2.out] | rw [WE1.out] | rw [WE2.out])
      try simp only [Act.put, putA, putZ, putS]
      refine tk [4, 5, 7, 8, 9, 10] ?_
      repeat (refine tkZ (oi := ⟨_, _, _, _, _, _⟩) (v := ?_) rfl (by kernel_rfl) (by rfl) (fun _ _ _ h => h) hS ?_ ?_; rotate_left; (· rintro W' ⟨z0, z1, z2, z3, z4, z5, z6, z7⟩; go_simp; try with_reducible rfl); try simp only [Act.put, putA, putZ, putS])
      refine tk0 ?_
      refine wpAnyZ_next (rs := [6]) (by kernel_rfl) (by simp) ?_
      refine NextZ.cons (o := ⟨some 22, _, _, _, _, _⟩) rfl (fun K hK => ?_) NextZ.nil
      go_simp
      refine (filled_any b1 b2 _).mono ?_
      rintro _ X0 ⟨rfl, hb0⟩
      (try go_wp2_with fail)
      have HA0 := Lib.hid (HAX.out.below hb0)
      refine hK.out _ _ (HC5.out X0 HA0.out) (fun hS => ?_)
      clear hK K
      try simp only [Act.put, putA, putZ, putS]
      clear hb0
      refine wpAnyZ_next (rs := [11]) (by kernel_rfl) (by simp) ?_
      refine NextZ.cons (o := ⟨some 27, _, _, _, _, _⟩) rfl (fun K hK => ?_) NextZ.nil
      go_simp
      refine (rliving_any (fillP b1 b2) p1 p2 _ HRT.out.1 HRT.out.2.1 HRT.out.2.2).mono ?_
      rintro _ X1 ⟨s0, rfl, hq0, hb1⟩
      (try go_wp2_with fail)
      have HA1 := Lib.hid (HA0.out.below hb1)
      have HQ0 := Lib.hid hq0
      clear hq0
      refine hK.out _ _ (HC5.out X1 HA1.out) (fun hS => ?_)
      clear hK K
      try simp only [Act.put, putA, putZ, putS]
      clear hb1
      refine wpAnyZ_next (rs := [12]) (by kernel_rfl) (by simp) ?_
      refine NextZ.last (o := ⟨none, _, _, _, _, _⟩) rfl (by kernel_rfl) (fun K hK => ?_)
      have HRX : Hid (X1.heap[w.heap.size + 1 + 1 + 1]? = some (.cells (stA fun _ => false) 54 (0, 0))) := (HA1.out.bk _ _ _ (.head _)).2
      have HSZ := Lib.hid (stA_info s0)
      have HAS : Hid (BF w (X1.setRow (w.heap.size + 1 + 1 + 1) (stA s0)) [(w.heap.size + 1 + 1 + 1, stA s0, 54), (w.heap.size, #[.slice uca t.nc ucc, .slice (some ⟨bb, bo, none⟩) t.nb ubc, .slice (some ⟨rb, ro, none⟩) t.nr urc, .slice (some ⟨nb, no, none⟩) t.nn unc], 25), (w.heap.size + 1, (outL out).toArray, 46), (w.heap.size + 1 + 1, stA fun _ => false, 54)]) := HA1.out.setrow (.head _) _ (List.forall_mem_cons.2 ⟨⟨show w.heap.size ≠ w.heap.size + 1 + 1 + 1 by omega, .tail _ (.head _)⟩, List.forall_mem_cons.2 ⟨⟨show w.heap.size + 1 ≠ w.heap.size + 1 + 1 + 1 by omega, .tail _ (.tail _ (.head _))⟩, List.forall_mem_cons.2 ⟨⟨show w.heap.size + 1 + 1 ≠ w.heap.size + 1 + 1 + 1 by omega, .tail _ (.tail _ (.tail _ (.head _)))⟩, List.forall_mem_nil _⟩⟩⟩)
      refine step_store_row (by rfl) 54 (.tmp 9) (.tmp 27) (by rfl) (w.heap.size + 1 + 1 + 1) (stA s0) (by rfl) (by rfl) 54 (stA fun _ => false) HRX.out HSZ.out rfl (stA_one _) ?_
      refine hK.out _ _ ?_
      clear hK K
      (try simp only [Act.put])
      refine wpAnyZ_done (by kernel_rfl) ?_ _
      go_wp2_with fail
      go_meet
      exact ⟨s0, H5.out _ HQ0.out, HAS.out⟩
    · have hq : ((g : Int) == 0) = false := by simp; omega
      obtain ⟨h, hh⟩ : ∃ h : Nat, (g : Int) - 1 = (h : Int) := ⟨g - 1, by omega⟩
      have WE1 : Hid (IntKind.i64.wrap ((g : Int) - 1) = (h : Int)) := by rw [Hid, hh]; exact IntWalk.i64_in _ (by omega)
      have WE2 : Hid (IntKind.i64.wrap (h : Int) = (h : Int)) := IntWalk.i64_in _ (by omega)
      have ehg : h = g - 1 := by omega
      have HUA : Hid (∀ X, Below w.heap.size w X → Calls Try.prog 44 #[.agg #[.slice uca t.nc ucc, .slice (some ⟨bb, bo, none⟩) t.nb ubc, .slice (some ⟨rb, ro, none⟩) t.nr urc, .slice (some ⟨nb, no, none⟩) t.nn unc], .int .i64 c, .int .i64 h, .agg (outL out).toArray] X fun e w' => ∃ q, e = .returned (.agg (stA q)) ∧ IvS q (t.up out c (g - 1)) ∧ Below X.heap.size X w') := fun X hX => by rw [← ehg]; exact HUP.out X h hX (by omega)
      obtain ⟨p1, p2, HPR⟩ : ∃ p1 p2, Hid (t.r g = (p1, p2)) := ⟨_, _, rfl⟩
      have HRT : Hid (0 ≤ p1 ∧ p1 ≤ p2 ∧ p2 ≤ 1000) := by
        have h := HRB.out g (by omega)
        rw [HPR.out] at h
        exact h
      have H6 : Hid (∀ U1 s0, IvS U1 (t.up out c (g - 1)) → (∀ i, i < 3000 → (s0 i = true ↔ LivP U1 (p1, p2) 3000 i)) → Mid1 t out c g s0) := fun U1 s0 h k => ⟨fun e => absurd e hg0, fun _ => ⟨U1, h, by rw [HPR.out]; exact k⟩⟩
      have rnr : (g : Int) < (t.nr : Int) := by omega
      have HC6 : Hid (∀ X, BF w X [(w.heap.size + 1 + 1 + 1, stA (fun _ => false), 54), (w.heap.size, #[.slice uca t.nc ucc, .slice (some ⟨bb, bo, none⟩) t.nb ubc, .slice (some ⟨rb, ro, none⟩) t.nr urc, .slice (some ⟨nb, no, none⟩) t.nn unc], 25), (w.heap.size + 1, (outL out).toArray, 46), (w.heap.size + 1 + 1, stA fun _ => false, 54)] → (X.cell? ⟨w.heap.size, 0, none⟩ = some (.slice uca t.nc ucc) ∧ X.cell? ⟨w.heap.size, 1, none⟩ = some (.slice (some ⟨bb, bo, none⟩) t.nb ubc) ∧ X.cell? ⟨w.heap.size, 2, none⟩ = some (.slice (some ⟨rb, ro, none⟩) t.nr urc) ∧ X.cell? ⟨w.heap.size, 3, none⟩ = some (.slice (some ⟨nb, no, none⟩) t.nn unc) ∧ X.rangeAt (w.heap.size + 1) 0 (outL out) ∧ X.cell? ⟨rb, ro + g * 2, none⟩ = some (.int .i64 p1) ∧ X.cell? ⟨rb, ro + g * 2 + 1, none⟩ = some (.int .i64 p2))) := fun X h => ⟨h.cell (.tail _ (.head _)) 0, h.cell (.tail _ (.head _)) 1, h.cell (.tail _ (.head _)) 2, h.cell (.tail _ (.head _)) 3, row_range (h.bk _ _ _ (.tail _ (.tail _ (.head _)))).2, by
        have k := (HRZ.out g (by omega) X h.fr).1
        rw [HPR.out] at k
        exact k, by
        have k := (HRZ.out g (by omega) X h.fr).2
        rw [HPR.out] at k
        exact k⟩
      clear hg0 ehg
      go_wp2_with fail
      have HAX := Lib.hid (HA0.out.below (Below.refl _ w1).drew)
      refine wp_region_Z (S := fun X => X.cell? ⟨w.heap.size, 0, none⟩ = some (.slice uca t.nc ucc) ∧ X.cell? ⟨w.heap.size, 1, none⟩ = some (.slice (some ⟨bb, bo, none⟩) t.nb ubc) ∧ X.cell? ⟨w.heap.size, 2, none⟩ = some (.slice (some ⟨rb, ro, none⟩) t.nr urc) ∧ X.cell? ⟨w.heap.size, 3, none⟩ = some (.slice (some ⟨nb, no, none⟩) t.nn unc) ∧ X.rangeAt (w.heap.size + 1) 0 (outL out) ∧ X.cell? ⟨rb, ro + g * 2, none⟩ = some (.int .i64 p1) ∧ X.cell? ⟨rb, ro + g * 2 + 1, none⟩ = some (.int .i64 p2)) (by kernel_rfl) (HC6.out _ HAX.out) (fun hS => ?_)
      generalize w1.drew = X at *
      refine tk [0, 1] ?_
      repeat (refine tkZ (oi := ⟨_, _, _, _, _, _⟩) (v := ?_) rfl (by kernel_rfl) (by rfl) (fun _ _ _ h => h) hS ?_ ?_; rotate_left; (· rintro W' ⟨z0, z1, z2, z3, z4, z5, z6⟩; go_simp; try with_reducible rfl); try simp only [Act.put, putA, putZ, putS])
      refine tk0 ?_
      refine tZ 2 (oi := ⟨_, _, _, _, _, _⟩) (v := .int .i64 (c : Int)) rfl (by kernel_rfl) (by rfl) (fun _ _ _ h => h) hS ?_ ?_
      · rintro W' ⟨z0, z1, z2, z3, z4, z5, z6⟩; go_simp; (try first | rw [WD1.out] | rw [WD2.out] | rw [WE1.out] | rw [WE2.out])
      try simp only [Act.put, putA, putZ, putS]
      refine tZ 3 (oi := ⟨_, _, _, _, _, _⟩) (v := ?_) rfl (by kernel_rfl) (by rfl) (fun _ _ _ h => h) hS ?_ ?_
      rotate_left
      · rintro W' ⟨z0, z1, z2, z3, z4, z5, z6⟩; go_simp; try with_reducible rfl
      try simp only [Act.put, putA, putZ, putS]
      refine tZ 4 (oi := ⟨_, _, _, _, _, _⟩) (v := .int .i64 (h : Int)) rfl (by kernel_rfl) (by rfl) (fun _ _ _ h => h) hS ?_ ?_
      · rintro W' ⟨z0, z1, z2, z3, z4, z5, z6⟩; go_simp; (try first | rw [WD1.out] | rw [WD2.out] | rw [WE1.out] | rw [WE2.out])
      try simp only [Act.put, putA, putZ, putS]
      refine wpAnyZ_take (i := 5) (oi := ⟨some 33, _, _, _, _, _⟩) (v := .agg (outL out).toArray) rfl (by kernel_rfl) (by kernel_rfl) (by kernel_rfl) (fun _ _ _ h => h) (ld_off out (by rfl) (.tmp 7) rfl (w.heap.size + 1) rfl (fun _ h => h.2.2.2.2.1)) hS ?_
      try simp only [Act.put, putA, putZ, putS]
      refine tk [7, 8, 9, 10, 11] ?_
      repeat (refine tkZ (oi := ⟨_, _, _, _, _, _⟩) (v := ?_) rfl (by kernel_rfl) (by rfl) (fun _ _ _ h => h) hS ?_ ?_; rotate_left; (· rintro W' ⟨z0, z1, z2, z3, z4, z5, z6⟩; go_simp; try with_reducible rfl); try simp only [Act.put, putA, putZ, putS])
      refine tk0 ?_
      refine wpAnyZ_next (rs := [6]) (by kernel_rfl) (by simp) ?_
      refine NextZ.cons (o := ⟨some 34, _, _, _, _, _⟩) rfl (fun K hK => ?_) NextZ.nil
      go_simp
      refine (HUA.out _ HAX.out.fr).mono ?_
      rintro _ X0 ⟨U1, rfl, hu1, hb0⟩
      (try go_wp2_with fail)
      have HA0 := Lib.hid (HAX.out.below hb0)
      have HU1 := Lib.hid hu1
      clear hu1
      refine hK.out _ _ (HC6.out X0 HA0.out) (fun hS => ?_)
      clear hK K
      try simp only [Act.put, putA, putZ, putS]
      clear hb0
      refine wpAnyZ_next (rs := [12]) (by kernel_rfl) (by simp) ?_
      refine NextZ.cons (o := ⟨some 40, _, _, _, _, _⟩) rfl (fun K hK => ?_) NextZ.nil
      go_simp
      refine (rliving_any U1 p1 p2 _ HRT.out.1 HRT.out.2.1 HRT.out.2.2).mono ?_
      rintro _ X1 ⟨s0, rfl, hq0, hb1⟩
      (try go_wp2_with fail)
      have HA1 := Lib.hid (HA0.out.below hb1)
      have HQ0 := Lib.hid hq0
      clear hq0
      refine hK.out _ _ (HC6.out X1 HA1.out) (fun hS => ?_)
      clear hK K
      try simp only [Act.put, putA, putZ, putS]
      clear hb1
      refine wpAnyZ_next (rs := [13]) (by kernel_rfl) (by simp) ?_
      refine NextZ.last (o := ⟨none, _, _, _, _, _⟩) rfl (by kernel_rfl) (fun K hK => ?_)
      have HRX : Hid (X1.heap[w.heap.size + 1 + 1 + 1]? = some (.cells (stA fun _ => false) 54 (0, 0))) := (HA1.out.bk _ _ _ (.head _)).2
      have HSZ := Lib.hid (stA_info s0)
      have HAS : Hid (BF w (X1.setRow (w.heap.size + 1 + 1 + 1) (stA s0)) [(w.heap.size + 1 + 1 + 1, stA s0, 54), (w.heap.size, #[.slice uca t.nc ucc, .slice (some ⟨bb, bo, none⟩) t.nb ubc, .slice (some ⟨rb, ro, none⟩) t.nr urc, .slice (some ⟨nb, no, none⟩) t.nn unc], 25), (w.heap.size + 1, (outL out).toArray, 46), (w.heap.size + 1 + 1, stA fun _ => false, 54)]) := HA1.out.setrow (.head _) _ (List.forall_mem_cons.2 ⟨⟨show w.heap.size ≠ w.heap.size + 1 + 1 + 1 by omega, .tail _ (.head _)⟩, List.forall_mem_cons.2 ⟨⟨show w.heap.size + 1 ≠ w.heap.size + 1 + 1 + 1 by omega, .tail _ (.tail _ (.head _))⟩, List.forall_mem_cons.2 ⟨⟨show w.heap.size + 1 + 1 ≠ w.heap.size + 1 + 1 + 1 by omega, .tail _ (.tail _ (.tail _ (.head _)))⟩, List.forall_mem_nil _⟩⟩⟩)
      refine step_store_row (by rfl) 54 (.tmp 9) (.tmp 40) (by rfl) (w.heap.size + 1 + 1 + 1) (stA s0) (by rfl) (by rfl) 54 (stA fun _ => false) HRX.out HSZ.out rfl (stA_one _) ?_
      refine hK.out _ _ ?_
      clear hK K
      (try simp only [Act.put])
      refine wpAnyZ_done (by kernel_rfl) ?_ _
      go_wp2_with fail
      go_meet
      exact ⟨s0, H6.out _ _ HU1.out HQ0.out, HAS.out⟩
  rename World => w2
  obtain ⟨s0, hm1, hbf⟩ := hcut
  have HM1 := Lib.hid hm1; have HA2 := Lib.hid hbf
  clear hm1 hbf HA0
  obtain ⟨l, hll⟩ : ∃ l : Nat, (t.ng : Int) - 1 = (l : Int) := ⟨t.ng - 1, by omega⟩
  have ell : l = t.last := by unfold Tb.last; omega
  have HLL := Lib.hid ell
  clear ell
  have c0 := HA2.out.cell (.tail _ (.head _)) 0
  have c1 := HA2.out.cell (.tail _ (.head _)) 1
  have c2 := HA2.out.cell (.tail _ (.head _)) 2
  have c3 := HA2.out.cell (.tail _ (.head _)) 3
  go_upto_if 45 with (go_at_call 23; refine (HGR.out _ HA2.out.fr).mono ?_; rintro _ w3 ⟨rfl, hb3⟩; have HA3 := Lib.hid (HA2.out.below hb3); clear hb3)
  clear c0 c1 c2 c3 HA2
  go_cut [] (fun wy => ∃ s1, Mid2 t out c g s0 s1 ∧ BF w wy [(w.heap.size + 1 + 1 + 1, stA s1, 54), (w.heap.size, #[.slice uca t.nc ucc, .slice (some ⟨bb, bo, none⟩) t.nb ubc, .slice (some ⟨rb, ro, none⟩) t.nr urc, .slice (some ⟨nb, no, none⟩) t.nn unc], 25), (w.heap.size + 1, (outL out).toArray, 46), (w.heap.size + 1 + 1, stA fun _ => false, 54)])
  case first => as_aux_lemma =>
    by_cases hgl : g = l
    · have hq : ((g : Int) == (l : Int)) = true := by simp; omega
      obtain ⟨k, hk⟩ : ∃ k : Nat, (g : Int) + 1 = (k : Int) := ⟨g + 1, by omega⟩
      have WE1 : Hid (IntKind.i64.wrap ((g : Int) + 1) = (k : Int)) := by rw [Hid, hk]; exact IntWalk.i64_in _ (by omega)
      have WE2 : Hid (IntKind.i64.wrap (k : Int) = (k : Int)) := IntWalk.i64_in _ (by omega)
      have ekg : k = g + 1 := by omega
      have HUB : Hid (∀ X, Below w.heap.size w X → Calls Try.prog 44 #[.agg #[.slice uca t.nc ucc, .slice (some ⟨bb, bo, none⟩) t.nb ubc, .slice (some ⟨rb, ro, none⟩) t.nr urc, .slice (some ⟨nb, no, none⟩) t.nn unc], .int .i64 c, .int .i64 g, .agg (outL out).toArray] X fun e w' => ∃ q, e = .returned (.agg (stA q)) ∧ IvS q (t.up out c g) ∧ Below X.heap.size X w') := fun X hX => HUP.out X g hX (by omega)
      obtain ⟨p1, p2, HPR⟩ : ∃ p1 p2, Hid (t.r k = (p1, p2)) := ⟨_, _, rfl⟩
      have HRT : Hid (0 ≤ p1 ∧ p1 ≤ p2 ∧ p2 ≤ 1000) := by
        have h := HRB.out k (by omega)
        rw [HPR.out] at h
        exact h
      have H8 : Hid (∀ U2 l2 s1, IvS U2 (t.up out c g) → (∀ i, i < 3000 → (l2 i = true ↔ LivP U2 (p1, p2) 3000 i)) → (∀ i, i < 3000 → (s1 i = true ↔ SumP s0 l2 1 3000 i)) → Mid2 t out c g s0 s1) := fun U2 l2 s1 h k1 k2 => ⟨fun _ => ⟨U2, l2, h, by rw [← ekg, HPR.out]; exact k1, k2⟩, fun e => absurd (hgl.trans HLL.out) e⟩
      have rnr : (k : Int) < (t.nr : Int) := by omega
      have ki : (0 : Int) ≤ (k : Int) := by omega
      have HC8 : Hid (∀ X, BF w X [(w.heap.size + 1 + 1 + 1, stA s0, 54), (w.heap.size, #[.slice uca t.nc ucc, .slice (some ⟨bb, bo, none⟩) t.nb ubc, .slice (some ⟨rb, ro, none⟩) t.nr urc, .slice (some ⟨nb, no, none⟩) t.nn unc], 25), (w.heap.size + 1, (outL out).toArray, 46), (w.heap.size + 1 + 1, stA fun _ => false, 54)] → (X.cell? ⟨w.heap.size, 0, none⟩ = some (.slice uca t.nc ucc) ∧ X.cell? ⟨w.heap.size, 1, none⟩ = some (.slice (some ⟨bb, bo, none⟩) t.nb ubc) ∧ X.cell? ⟨w.heap.size, 2, none⟩ = some (.slice (some ⟨rb, ro, none⟩) t.nr urc) ∧ X.cell? ⟨w.heap.size, 3, none⟩ = some (.slice (some ⟨nb, no, none⟩) t.nn unc) ∧ X.rangeAt (w.heap.size + 1) 0 (outL out) ∧ X.cell? ⟨rb, ro + k * 2, none⟩ = some (.int .i64 p1) ∧ X.cell? ⟨rb, ro + k * 2 + 1, none⟩ = some (.int .i64 p2) ∧ X.rangeAt (w.heap.size + 1 + 1 + 1) 0 (stL s0))) := fun X h => ⟨h.cell (.tail _ (.head _)) 0, h.cell (.tail _ (.head _)) 1, h.cell (.tail _ (.head _)) 2, h.cell (.tail _ (.head _)) 3, row_range (h.bk _ _ _ (.tail _ (.tail _ (.head _)))).2, by
        have k := (HRZ.out k (by omega) X h.fr).1
        rw [HPR.out] at k
        exact k, by
        have k := (HRZ.out k (by omega) X h.fr).2
        rw [HPR.out] at k
        exact k, row_range (h.bk _ _ _ (.head _)).2⟩
      clear hgl ekg
      go_wp2_with fail
      have HAX := Lib.hid (HA3.out.below (Below.refl _ w3).drew)
      refine wp_region_Z (S := fun X => X.cell? ⟨w.heap.size, 0, none⟩ = some (.slice uca t.nc ucc) ∧ X.cell? ⟨w.heap.size, 1, none⟩ = some (.slice (some ⟨bb, bo, none⟩) t.nb ubc) ∧ X.cell? ⟨w.heap.size, 2, none⟩ = some (.slice (some ⟨rb, ro, none⟩) t.nr urc) ∧ X.cell? ⟨w.heap.size, 3, none⟩ = some (.slice (some ⟨nb, no, none⟩) t.nn unc) ∧ X.rangeAt (w.heap.size + 1) 0 (outL out) ∧ X.cell? ⟨rb, ro + k * 2, none⟩ = some (.int .i64 p1) ∧ X.cell? ⟨rb, ro + k * 2 + 1, none⟩ = some (.int .i64 p2) ∧ X.rangeAt (w.heap.size + 1 + 1 + 1) 0 (stL s0)) (by kernel_rfl) (HC8.out _ HAX.out) (fun hS => ?_)
      generalize w3.drew = X at *
      refine wpAnyZ_take (i := 0) (oi := ⟨some 46, _, _, _, _, _⟩) (v := .agg (stA s0)) rfl (by kernel_rfl) (by kernel_rfl) (by kernel_rfl) (fun _ _ _ h => h) (ld_set s0 (by rfl) (.tmp 9) rfl (w.heap.size + 1 + 1 + 1) rfl (fun _ h => h.2.2.2.2.2.2.2)) hS ?_
      try simp only [Act.put, putA, putZ, putS]
      refine tk [1, 2] ?_
      repeat (refine tkZ (oi := ⟨_, _, _, _, _, _⟩) (v := ?_) rfl (by kernel_rfl) (by rfl) (fun _ _ _ h => h) hS ?_ ?_; rotate_left; (· rintro W' ⟨z0, z1, z2, z3, z4, z5, z6, z7⟩; go_simp; try with_reducible rfl); try simp only [Act.put, putA, putZ, putS])
      refine tk0 ?_
      refine tZ 3 (oi := ⟨_, _, _, _, _, _⟩) (v := .int .i64 (c : Int)) rfl (by kernel_rfl) (by rfl) (fun _ _ _ h => h) hS ?_ ?_
      · rintro W' ⟨z0, z1, z2, z3, z4, z5, z6, z7⟩; go_simp; (try first | rw [WD1.out] | rw [WD2.out] | rw [WE1.out] | rw [WE2.out])
      try simp only [Act.put, putA, putZ, putS]
      refine tZ 4 (oi := ⟨_, _, _, _, _, _⟩) (v := ?_) rfl (by kernel_rfl) (by rfl) (fun _ _ _ h => h) hS ?_ ?_
      rotate_left
      · rintro W' ⟨z0, z1, z2, z3, z4, z5, z6, z7⟩; go_simp; try with_reducible rfl
      try simp only [Act.put, putA, putZ, putS]
      refine wpAnyZ_take (i := 5) (oi := ⟨some 51, _, _, _, _, _⟩) (v := .agg (outL out).toArray) rfl (by kernel_rfl) (by kernel_rfl) (by kernel_rfl) (fun _ _ _ h => h) (ld_off out (by rfl) (.tmp 7) rfl (w.heap.size + 1) rfl (fun _ h => h.2.2.2.2.1)) hS ?_
      try simp only [Act.put, putA, putZ, putS]
      refine tk [7, 8, 9] ?_
      repeat (refine tkZ (oi := ⟨_, _, _, _, _, _⟩) (v := ?_) rfl (by kernel_rfl) (by rfl) (fun _ _ _ h => h) hS ?_ ?_; rotate_left; (· rintro W' ⟨z0, z1, z2, z3, z4, z5, z6, z7⟩; go_simp; try with_reducible rfl); try simp only [Act.put, putA, putZ, putS])
      refine tk0 ?_
      refine tZ 10 (oi := ⟨_, _, _, _, _, _⟩) (v := .int .i64 (k : Int)) rfl (by kernel_rfl) (by rfl) (fun _ _ _ h => h) hS ?_ ?_
      · rintro W' ⟨z0, z1, z2, z3, z4, z5, z6, z7⟩; go_simp; (try first | rw [WD1.out] | rw [WD2.out] | rw [WE1.out] | rw [WE2.out])
      try simp only [Act.put, putA, putZ, putS]
      refine tk [11, 12] ?_
      repeat (refine tkZ (oi := ⟨_, _, _, _, _, _⟩) (v := ?_) rfl (by kernel_rfl) (by rfl) (fun _ _ _ h => h) hS ?_ ?_; rotate_left; (· rintro W' ⟨z0, z1, z2, z3, z4, z5, z6, z7⟩; go_simp; try with_reducible rfl); try simp only [Act.put, putA, putZ, putS])
      refine tk0 ?_
      refine wpAnyZ_next (rs := [6]) (by kernel_rfl) (by simp) ?_
      refine NextZ.cons (o := ⟨some 52, _, _, _, _, _⟩) rfl (fun K hK => ?_) NextZ.nil
      go_simp
      refine (HUB.out _ HAX.out.fr).mono ?_
      rintro _ X0 ⟨U2, rfl, hu2, hb0⟩
      (try go_wp2_with fail)
      have HA0 := Lib.hid (HAX.out.below hb0)
      have HU2 := Lib.hid hu2
      clear hu2
      refine hK.out _ _ (HC8.out X0 HA0.out) (fun hS => ?_)
      clear hK K
      try simp only [Act.put, putA, putZ, putS]
      clear hb0
      refine wpAnyZ_next (rs := [13]) (by kernel_rfl) (by simp) ?_
      refine NextZ.cons (o := ⟨some 59, _, _, _, _, _⟩) rfl (fun K hK => ?_) NextZ.nil
      go_simp
      refine (rliving_any U2 p1 p2 _ HRT.out.1 HRT.out.2.1 HRT.out.2.2).mono ?_
      rintro _ X1 ⟨l2, rfl, hq1, hb1⟩
      (try go_wp2_with fail)
      have HA1 := Lib.hid (HA0.out.below hb1)
      have HQ1 := Lib.hid hq1
      clear hq1
      refine hK.out _ _ (HC8.out X1 HA1.out) (fun hS => ?_)
      clear hK K
      try simp only [Act.put, putA, putZ, putS]
      clear hb1
      refine wpAnyZ_next (rs := [14]) (by kernel_rfl) (by simp) ?_
      refine NextZ.cons (o := ⟨some 60, _, _, _, _, _⟩) rfl (fun K hK => ?_) NextZ.nil
      go_simp
      refine (sum_add s0 l2 _).mono ?_
      rintro _ X2 ⟨s1, rfl, hq2, hb2⟩
      (try go_wp2_with fail)
      have HA2 := Lib.hid (HA1.out.below hb2)
      have HQ2 := Lib.hid hq2
      clear hq2
      refine hK.out _ _ (HC8.out X2 HA2.out) (fun hS => ?_)
      clear hK K
      try simp only [Act.put, putA, putZ, putS]
      clear hb2
      refine wpAnyZ_next (rs := [15]) (by kernel_rfl) (by simp) ?_
      refine NextZ.last (o := ⟨none, _, _, _, _, _⟩) rfl (by kernel_rfl) (fun K hK => ?_)
      have HRX : Hid (X2.heap[w.heap.size + 1 + 1 + 1]? = some (.cells (stA s0) 54 (0, 0))) := (HA2.out.bk _ _ _ (.head _)).2
      have HSZ := Lib.hid (stA_info s1)
      have HAS : Hid (BF w (X2.setRow (w.heap.size + 1 + 1 + 1) (stA s1)) [(w.heap.size + 1 + 1 + 1, stA s1, 54), (w.heap.size, #[.slice uca t.nc ucc, .slice (some ⟨bb, bo, none⟩) t.nb ubc, .slice (some ⟨rb, ro, none⟩) t.nr urc, .slice (some ⟨nb, no, none⟩) t.nn unc], 25), (w.heap.size + 1, (outL out).toArray, 46), (w.heap.size + 1 + 1, stA fun _ => false, 54)]) := HA2.out.setrow (.head _) _ (List.forall_mem_cons.2 ⟨⟨show w.heap.size ≠ w.heap.size + 1 + 1 + 1 by omega, .tail _ (.head _)⟩, List.forall_mem_cons.2 ⟨⟨show w.heap.size + 1 ≠ w.heap.size + 1 + 1 + 1 by omega, .tail _ (.tail _ (.head _))⟩, List.forall_mem_cons.2 ⟨⟨show w.heap.size + 1 + 1 ≠ w.heap.size + 1 + 1 + 1 by omega, .tail _ (.tail _ (.tail _ (.head _)))⟩, List.forall_mem_nil _⟩⟩⟩)
      refine step_store_row (by rfl) 54 (.tmp 9) (.tmp 60) (by rfl) (w.heap.size + 1 + 1 + 1) (stA s1) (by rfl) (by rfl) 54 (stA s0) HRX.out HSZ.out rfl (stA_one _) ?_
      refine hK.out _ _ ?_
      clear hK K
      (try simp only [Act.put])
      refine wpAnyZ_done (by kernel_rfl) ?_ _
      go_wp2_with fail
      go_meet
      exact ⟨s1, H8.out _ _ _ HU2.out HQ1.out HQ2.out, HAS.out⟩
    · have hq : ((g : Int) == (l : Int)) = false := by simp; omega
      have H0 : Hid (Mid2 t out c g s0 s0) := ⟨fun e => absurd (e.trans HLL.out.symm) hgl, fun _ => rfl⟩
      clear hgl
      go_wp2_with fail
      go_meet
      exact ⟨s0, H0.out, HA3.out⟩
  rename World => w4
  obtain ⟨s1, hm2, hbf⟩ := hcut
  have HA4 := Lib.hid hbf
  have HFIN : Hid (∀ s, (∀ i, i < 3000 → (s i = true ↔ MovP s1 n1 n2 3000 i)) → IvS s (t.before out d g)) := fun s h => by rw [HD.out]; exact HMS.out s0 s1 s HM1.out hm2 h
  clear hm2 hbf HA3
  have HC9 : Hid (∀ X, BF w X [(w.heap.size + 1 + 1 + 1, stA s1, 54), (w.heap.size, #[.slice uca t.nc ucc, .slice (some ⟨bb, bo, none⟩) t.nb ubc, .slice (some ⟨rb, ro, none⟩) t.nr urc, .slice (some ⟨nb, no, none⟩) t.nn unc], 25), (w.heap.size + 1, (outL out).toArray, 46), (w.heap.size + 1 + 1, stA fun _ => false, 54)] → (X.cell? ⟨w.heap.size, 0, none⟩ = some (.slice uca t.nc ucc) ∧ X.cell? ⟨w.heap.size, 1, none⟩ = some (.slice (some ⟨bb, bo, none⟩) t.nb ubc) ∧ X.cell? ⟨w.heap.size, 2, none⟩ = some (.slice (some ⟨rb, ro, none⟩) t.nr urc) ∧ X.cell? ⟨w.heap.size, 3, none⟩ = some (.slice (some ⟨nb, no, none⟩) t.nn unc) ∧ X.cell? ⟨nb, no + g * 2, none⟩ = some (.int .i64 n1) ∧ X.cell? ⟨nb, no + g * 2 + 1, none⟩ = some (.int .i64 n2) ∧ X.rangeAt (w.heap.size + 1 + 1 + 1) 0 (stL s1))) := fun X h => ⟨h.cell (.tail _ (.head _)) 0, h.cell (.tail _ (.head _)) 1, h.cell (.tail _ (.head _)) 2, h.cell (.tail _ (.head _)) 3, (HNZ.out X h.fr).1, (HNZ.out X h.fr).2, row_range (h.bk _ _ _ (.head _)).2⟩
  go_wp2_with fail
  have HAX := Lib.hid (HA4.out.below (Below.refl _ w4).drew)
  refine wp_region_Z (S := fun X => X.cell? ⟨w.heap.size, 0, none⟩ = some (.slice uca t.nc ucc) ∧ X.cell? ⟨w.heap.size, 1, none⟩ = some (.slice (some ⟨bb, bo, none⟩) t.nb ubc) ∧ X.cell? ⟨w.heap.size, 2, none⟩ = some (.slice (some ⟨rb, ro, none⟩) t.nr urc) ∧ X.cell? ⟨w.heap.size, 3, none⟩ = some (.slice (some ⟨nb, no, none⟩) t.nn unc) ∧ X.cell? ⟨nb, no + g * 2, none⟩ = some (.int .i64 n1) ∧ X.cell? ⟨nb, no + g * 2 + 1, none⟩ = some (.int .i64 n2) ∧ X.rangeAt (w.heap.size + 1 + 1 + 1) 0 (stL s1)) (by kernel_rfl) (HC9.out _ HAX.out) (fun hS => ?_)
  generalize w4.drew = X at *
  refine wpAnyZ_take (i := 0) (oi := ⟨some 61, _, _, _, _, _⟩) (v := .agg (stA s1)) rfl (by kernel_rfl) (by kernel_rfl) (by kernel_rfl) (fun _ _ _ h => h) (ld_set s1 (by rfl) (.tmp 9) rfl (w.heap.size + 1 + 1 + 1) rfl (fun _ h => h.2.2.2.2.2.2)) hS ?_
  try simp only [Act.put, putA, putZ, putS]
  refine tk [1, 2, 3, 4, 5] ?_
  repeat (refine tkZ (oi := ⟨_, _, _, _, _, _⟩) (v := ?_) rfl (by kernel_rfl) (by rfl) (fun _ _ _ h => h) hS ?_ ?_; rotate_left; (· rintro W' ⟨z0, z1, z2, z3, z4, z5, z6⟩; go_simp; try with_reducible rfl); try simp only [Act.put, putA, putZ, putS])
  refine tk0 ?_
  refine wpAnyZ_next (rs := [6]) (by kernel_rfl) (by simp) ?_
  refine NextZ.cons (o := ⟨some 67, _, _, _, _, _⟩) rfl (fun K hK => ?_) NextZ.nil
  go_simp
  refine (moved_any s1 n1 n2 _ HNT.out.1 HNT.out.2.1 HNT.out.2.2.1 HNT.out.2.2.2).mono ?_
  rintro _ X0 ⟨s, rfl, hq, hb0⟩
  (try go_wp2_with fail)
  have HA0 := Lib.hid (HAX.out.below hb0)
  have HQ := Lib.hid hq
  clear hq
  refine hK.out _ _ (HC9.out X0 HA0.out) (fun hS => ?_)
  clear hK K
  try simp only [Act.put, putA, putZ, putS]
  clear hb0
  refine wpAnyZ_next (rs := [7]) (by kernel_rfl) (by simp) ?_
  refine NextZ.last (o := ⟨none, _, _, _, _, _⟩) rfl (by kernel_rfl) (fun K hK => ?_)
  have HRX : Hid (X0.heap[w.heap.size + 1 + 1]? = some (.cells (stA fun _ => false) 54 (0, 0))) := (HA0.out.bk _ _ _ (.tail _ (.tail _ (.tail _ (.head _))))).2
  have HSZ := Lib.hid (stA_info s)
  refine step_store_row (by rfl) 54 (.tmp 8) (.tmp 67) (by rfl) (w.heap.size + 1 + 1) (stA s) (by rfl) (by rfl) 54 (stA fun _ => false) HRX.out HSZ.out rfl (stA_one _) ?_
  refine hK.out _ _ ?_
  clear hK K
  (try simp only [Act.put])
  refine wpAnyZ_done (by kernel_rfl) ?_ _
  go_wp2_with fail
  refine bodyPost_ret (v := .agg (stA s)) (results_cell_row rfl _ _ (w.heap.size + 1 + 1) 54 _ (0, 0) _ rfl (setRow_heap _ _ _ _ _ _ HRX.out) Try.underlying54 rfl HSZ.out) rfl ⟨s, rfl, HFIN.out s HQ.out, HA0.out.fr.trans ⟨rfl, rfl, rfl, by simp, fun q hq => setRow_other _ _ _ _ (by omega)⟩⟩
end Go.Proofs.Ytjaoflfophcibaa
